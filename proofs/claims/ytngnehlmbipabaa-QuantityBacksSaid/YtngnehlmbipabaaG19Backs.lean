/-
  The walk of Move.
-/
import Derived.Test.YtngnehlmbipabaaG18Backs
import Derived.Test.YtngnehlmbipabaaG5Backs
set_option linter.unusedSimpArgs false
set_option linter.unusedVariables false
namespace Go.Proofs.Ytngnehlmbipabaa
open Go.RowKit

def moveOk (xs ys : List Int) (dx dy : Int) (n : Nat) : Prop := ∀ k, k < n → isQ (xs.getD k 0 + dx) = true ∧ isQ (ys.getD k 0 + dy) = true
instance (xs ys : List Int) (dx dy : Int) (n : Nat) : Decidable (moveOk xs ys dx dy n) := by unfold moveOk; infer_instance
/-- What Move returns. -/
def moveS (xs ys : List Int) (dx dy : Int) : (List Int × List Int) × Int :=
  if checkC xs ys ≠ 0 then (([], []), checkC xs ys) else if ¬ (isQ dx = true ∧ isQ dy = true) then (([], []), 2)
  else if moveOk xs ys dx dy xs.length then ((xs.map (· + dx), ys.map (· + dy)), 0) else (([], []), 4)
/-- A curve that has been made: in new memory, its two rows apart. -/
def CuOut (B : Nat) (v u : Value) (xs ys : List Int) (W : World) : Prop :=
  (v = .slice none 0 0 ∧ u = .slice none 0 0 ∧ xs = [] ∧ ys = []) ∨
  ∃ gx cx gy cy, v = .slice (some ⟨gx, 0, none⟩) xs.length cx ∧ u = .slice (some ⟨gy, 0, none⟩) ys.length cy ∧ B ≤ gx ∧ B ≤ gy ∧ gx ≠ gy ∧ IntBlk W gx xs ∧ IntBlk W gy ys
theorem CuOut.nil {B : Nat} {W : World} : CuOut B (.slice none 0 0) (.slice none 0 0) [] [] W := Or.inl ⟨rfl, rfl, rfl, rfl⟩
theorem checkC_vals (xs ys : List Int) : checkC xs ys = 0 ∨ checkC xs ys = 2 ∨ checkC xs ys = 6 := by
  unfold checkC
  split
  · exact Or.inr (Or.inr rfl)
  · split
    · exact Or.inl rfl
    · exact Or.inr (Or.inl rfl)
theorem checkC_good {xs ys : List Int} (h : checkC xs ys = 0) : goodC xs ys ∧ xs.length ≤ 64 := by
  unfold checkC at h
  split at h
  · exact absurd h (by decide)
  · split at h
    · rename_i h1 h2; exact ⟨h2, by omega⟩
    · exact absurd h (by decide)

/-- The rows of a curve that is being moved: the first k numbers have been moved. -/
def mvRow (xs zs : List Int) (dx : Int) (k : Nat) : Prop := zs.length = xs.length ∧ ∀ j, zs.getD j 0 = if j < k ∧ j < xs.length then xs.getD j 0 + dx else xs.getD j 0
theorem mvRow.zero {xs : List Int} {dx : Int} : mvRow xs xs dx 0 := ⟨rfl, fun j => by simp⟩
theorem mvRow.at_ {xs zs : List Int} {dx : Int} {k : Nat} (h : mvRow xs zs dx k) : zs.getD k 0 = xs.getD k 0 := by rw [h.2 k, if_neg (by omega)]
theorem mvRow.next {xs zs : List Int} {dx : Int} {k : Nat} (h : mvRow xs zs dx k) (hk : k < xs.length) : mvRow xs (zs.set k (xs.getD k 0 + dx)) dx (k + 1) := by
  refine ⟨by rw [List.length_set]; exact h.1, fun j => ?_⟩
  rw [getDI_set (by rw [h.1]; exact hk), h.2 j]
  by_cases e : k = j
  · subst e
    rw [if_pos rfl, if_pos ⟨by omega, hk⟩]
  · rw [if_neg e]
    by_cases e2 : j < k ∧ j < xs.length
    · rw [if_pos e2, if_pos ⟨by omega, e2.2⟩]
    · rw [if_neg e2, if_neg (by omega)]
theorem mvRow.all {xs zs : List Int} {dx : Int} {k : Nat} (h : mvRow xs zs dx k) (hk : xs.length ≤ k) : zs = xs.map (· + dx) := by
  refine ints_eq (by rw [h.1]; simp) fun j hj => ?_
  rw [h.2 j, if_pos ⟨by have := h.1; omega, by have := h.1; omega⟩]
  have hj' : j < xs.length := by have := h.1; omega
  simp [List.getD_eq_getElem?_getD, List.getElem?_eq_getElem hj']
theorem CuBox.step {B r gx cx gy cy : Nat} {xs ys : List Int} {W w2 : World} (h : CuBox B r gx cx gy cy xs ys W) (hb : Below W.heap.size W w2) : CuBox B r gx cx gy cy xs ys w2 := by
  obtain ⟨h1, h2, h3, h4, h5⟩ := h
  exact ⟨cell_step h1 hb, cell_step h2 hb, h3.step hb, h4.step hb, h5⟩
theorem CuBox.setX {B r gx cx gy cy k : Nat} {v : Int} {xs ys : List Int} {W : World} (h : CuBox B r gx cx gy cy xs ys W) (hk : k < xs.length) : CuBox B r gx cx gy cy (xs.set k v) ys (W.setCell ⟨gx, k, none⟩ (.int .i64 v)) := by
  obtain ⟨h1, h2, h3, h4, h5, h6, h7, h8⟩ := h
  exact ⟨by rw [List.length_set]; exact cell_set_far h1 h6, cell_set_far h2 h6, h3.set hk, h4.far (Ne.symm h5), h5, h6, h7, h8⟩
theorem CuBox.setY {B r gx cx gy cy k : Nat} {v : Int} {xs ys : List Int} {W : World} (h : CuBox B r gx cx gy cy xs ys W) (hk : k < ys.length) : CuBox B r gx cx gy cy xs (ys.set k v) (W.setCell ⟨gy, k, none⟩ (.int .i64 v)) := by
  obtain ⟨h1, h2, h3, h4, h5, h6, h7, h8⟩ := h
  exact ⟨cell_set_far h1 h7, by rw [List.length_set]; exact cell_set_far h2 h7, h3.far h5, h4.set hk, h5, h6, h7, h8⟩
theorem CuBox.out {B r gx cx gy cy : Nat} {xs ys : List Int} {W : World} {B2 : Nat} (h : CuBox B r gx cx gy cy xs ys W) (hB : B2 ≤ B) : CuOut B2 (.slice (some ⟨gx, 0, none⟩) xs.length cx) (.slice (some ⟨gy, 0, none⟩) ys.length cy) xs ys W := by
  obtain ⟨h1, h2, h3, h4, h5, h6, h7, h8, h9, h10⟩ := h
  exact Or.inr ⟨gx, cx, gy, cy, rfl, rfl, by omega, by omega, h5, h3, h4⟩

set_option maxHeartbeats 4000000 in
set_option maxRecDepth 20000 in
theorem Move_any (a b : Option Addr) (ca cb : Nat) (xs ys : List Int) (dx dy : Int) (w : World) (hx : xs.length ≤ 1000000) (hy : ys.length ≤ 1000000) (hA : IntAt a xs w) (hB : IntAt b ys w) :
    Calls Try.prog 7 #[.agg #[.slice a xs.length ca, .slice b ys.length cb], .int .i64 dx, .int .i64 dy] w fun e w' => ∃ v u, e = .returned (.tuple #[.agg #[v, u], .int .i64 (moveS xs ys dx dy).2]) ∧ CuOut w.heap.size v u (moveS xs ys dx dy).1.1 (moveS xs ys dx dy).1.2 w' ∧ Below w.heap.size w w' := by
  have C := Lib.hid (fun w h1 h2 => CheckCurve_any a b ca cb xs ys w hx hy h1 h2)
  have HA := Lib.hid hA
  have HB := Lib.hid hB
  clear hA hB
  by_cases h1 : checkC xs ys = 0
  · by_cases h2 : isQ dx = true ∧ isQ dy = true
    · obtain ⟨⟨hpre, hris⟩, h64⟩ := checkC_good h1
      rw [h1] at C
      obtain ⟨h3, h4⟩ := h2
      obtain ⟨p1, p2, p3, p4⟩ := hpre
      have hm : moveS xs ys dx dy = if moveOk xs ys dx dy xs.length then ((xs.map (· + dx), ys.map (· + dy)), 0) else (([], []), 4) := by
        unfold moveS; rw [if_neg (by simp [h1]), if_neg (fun h => h ⟨h3, h4⟩)]
      have HM := Lib.hid hm
      have HL := Lib.hid p1
      have K1 := Lib.hid (fun w h => CloneI_row a ca xs w hx h)
      have K2 := Lib.hid (fun w h => CloneI_row b cb ys w hy h)
      have hne : xs ≠ [] := fun e => by rw [e] at p2; simp at p2
      have hne2 : ys ≠ [] := fun e => by rw [e] at p1; rw [p1] at p2; simp at p2
      have HQ := Lib.hid (show (∀ k, -1099511627776 ≤ xs.getD k 0 ∧ xs.getD k 0 ≤ 1099511627776) ∧ (∀ k, -1099511627776 ≤ ys.getD k 0 ∧ ys.getD k 0 ≤ 1099511627776) from ⟨allQ_getD p3, allQ_getD p4⟩)
      have bx := (isQ_iff _).1 h3
      have by_ := (isQ_iff _).1 h4
      rw [← p1] at C K2 ⊢
      obtain ⟨bu, ou, rfl, -⟩ := id (HA.out hne)
      obtain ⟨bv, ov, rfl, -⟩ := id (HB.out hne2)
      generalize moveS xs ys dx dy = R at *
      clear hm h1 p1 p3 p4 hris
      go_enter Try.func7, Try.ntmps7
      go_upto_region 6 with (first | (go_at_call 12; refine (C.out _ (HA.out.step (by repeat' (first | exact Below.refl _ _ | assumption | apply bDrewN | apply bDrew | apply bAlloc | (refine bSet ?_ ?_ _) | (refine bStep ?_ (by assumption)) | omega | (simp <;> omega)))) (HB.out.step (by repeat' (first | exact Below.refl _ _ | assumption | apply bDrewN | apply bDrew | apply bAlloc | (refine bSet ?_ ?_ _) | (refine bStep ?_ (by assumption)) | omega | (simp <;> omega))))).mono ?_; rintro e w1 ⟨rfl, hb1⟩; obtain ⟨hcw1, hfw1⟩ := bcell hb1; have hzw1 := Below.size hb1; (try simp at hzw1); have hzw10 : w.heap.size < w1.heap.size := (by omega); have hzw11 : w.heap.size + 1 < w1.heap.size := (by omega)) | (go_at_call 39; refine (is_any _ _).mono ?_; rintro e w' ⟨rfl, rfl⟩))
      have hbw : Below w.heap.size w w1 := (by repeat' (first | exact Below.refl _ _ | assumption | apply bDrewN | apply bDrew | apply bAlloc | (refine bSet ?_ ?_ _) | (refine bStep ?_ (by assumption)) | omega | (simp <;> omega)))
      have HS := Lib.hid (show Kf w (w.heap.size + 2) [(w.heap.size, 0, (.slice (some ⟨bu, ou, none⟩) xs.length ca)), (w.heap.size, 1, (.slice (some ⟨bv, ov, none⟩) xs.length cb)), (w.heap.size + 1, 0, (.slice none 0 0)), (w.heap.size + 1, 1, (.slice none 0 0))] (w.heap.size + 1) w1 from ⟨((((Cs.nil (by omega) hbw).cons (by go_simp) (by omega)).cons (by go_simp) (by omega)).cons (by go_simp) (by omega)).cons (by go_simp) (by omega), by omega, _, _, by simpa using blk_step (blk_new (w.alloc _) _) hb1⟩)
      clear hcw1 hfw1 hb1 C
      go_cut [9] (fun s9 W => ∃ r gx cx gy cy : Nat, s9 = .pointer (some ⟨r, 0, none⟩) ∧ CuBox (w.heap.size + 2) r gx cx gy cy xs ys W ∧ Kf w (w.heap.size + 2) [(w.heap.size, 0, (.slice (some ⟨bu, ou, none⟩) xs.length ca)), (w.heap.size, 1, (.slice (some ⟨bv, ov, none⟩) xs.length cb)), (w.heap.size + 1, 0, (.slice none 0 0)), (w.heap.size + 1, 1, (.slice none 0 0))] (w.heap.size + 1) W)
      case first =>
        generalize hA0 : (Act.mk _ _) = A0
        refine region_inv (by kernel_rfl) (by kernel_rfl) (fun l a W => ∃ (b0 b1 b2 b3 b4 b5 b6 b7 b8 : Bool) (v26 v27 v28 v29 v30 v31 v32 v9 : Value), l = #[b0, b1, b2, b3, b4, b5, b6, b7, b8] ∧ a = updAll A0 [(26, v26), (27, v27), (28, v28), (29, v29), (30, v30), (31, v31), (32, v32), (9, v9)] ∧ (b0 = true → v26 = (.pointer (some ⟨w.heap.size, 0, none⟩))) ∧ (b1 = true → v27 = (.slice (some ⟨bu, ou, none⟩) xs.length ca)) ∧ (b3 = true → v29 = (.pointer (some ⟨w.heap.size, 1, none⟩))) ∧ (b4 = true → v30 = (.slice (some ⟨bv, ov, none⟩) xs.length cb)) ∧ Kf w (w.heap.size + 2) [(w.heap.size, 0, (.slice (some ⟨bu, ou, none⟩) xs.length ca)), (w.heap.size, 1, (.slice (some ⟨bv, ov, none⟩) xs.length cb)), (w.heap.size + 1, 0, (.slice none 0 0)), (w.heap.size + 1, 1, (.slice none 0 0))] (w.heap.size + 1) W ∧ w.heap.size + 2 ≤ W.heap.size ∧ Clo (w.heap.size + 2) xs ys b2 b5 b6 b7 b8 v28 v31 v32 v9 W) ?h0 ?hsz ?step ?done
        case h0 =>
          refine ⟨false, false, false, false, false, false, false, false, false, A0.tmps.getD 26 undef, A0.tmps.getD 27 undef, A0.tmps.getD 28 undef, A0.tmps.getD 29 undef, A0.tmps.getD 30 undef, A0.tmps.getD 31 undef, A0.tmps.getD 32 undef, A0.tmps.getD 9 undef, by rfl, ?_, by simp, by simp, by simp, by simp, (HS.out).drew, (by first | omega | (simp; omega) | simp), Clo.new⟩
          rw [← hA0]
          simp [updAll, Act.put]
        case hsz =>
          rintro l a W ⟨b0, b1, b2, b3, b4, b5, b6, b7, b8, v26, v27, v28, v29, v30, v31, v32, v9, rfl, -⟩
          rfl
        case step =>
          intro iop oop hopi lst act W hInv hlst hdep
          obtain ⟨b0, b1, b2, b3, b4, b5, b6, b7, b8, v26, v27, v28, v29, v30, v31, v32, v9, rfl, rfl, f0, f1, f3, f4, hM, hz, hC⟩ := hInv
          have hi8 : iop < 9 := (Array.getElem?_eq_some_iff.1 hopi).1
          have hi9 : iop = 0 ∨ iop = 1 ∨ iop = 2 ∨ iop = 3 ∨ iop = 4 ∨ iop = 5 ∨ iop = 6 ∨ iop = 7 ∨ iop = 8 := by omega
          rcases hi9 with rfl | rfl | rfl | rfl | rfl | rfl | rfl | rfl | rfl
          · obtain rfl : b0 = false := by simpa using hlst
            obtain rfl := Option.some.inj (show some _ = some oop from hopi)
            refine step_to (a' := (updAll A0 [(26, v26), (27, v27), (28, v28), (29, v29), (30, v30), (31, v31), (32, v32), (9, v9)]).put (some 26) ((.pointer (some ⟨w.heap.size, 0, none⟩)))) (w' := W) ?_ ?_
            · intro K' hK'
              subst hA0
              have c0 := hM.at_ (show (w.heap.size, 0, (.slice (some ⟨bu, ou, none⟩) xs.length ca)) ∈ _ from by simp); have c1 := hM.at_ (show (w.heap.size, 1, (.slice (some ⟨bv, ov, none⟩) xs.length cb)) ∈ _ from by simp); have c2 := hM.at_ (show (w.heap.size + 1, 0, (.slice none 0 0)) ∈ _ from by simp); have c3 := hM.at_ (show (w.heap.size + 1, 1, (.slice none 0 0)) ∈ _ from by simp)
              refine wpOp_plain rfl rfl ?_
              simp only [updAll, Act.put, List.setIfInBounds_toArray, List.set_cons_zero, List.set_cons_succ] at hK' ⊢
              go_wp2
              exact hK'
            · refine ⟨true, b1, b2, b3, b4, b5, b6, b7, b8, _, v27, v28, v29, v30, v31, v32, v9, by rfl, ?_, fun _ => rfl, f1, f3, f4, hM, hz, hC⟩
              rw [← hA0]
              simp [updAll, Act.put]
          · obtain rfl : b1 = false := by simpa using hlst
            obtain rfl := Option.some.inj (show some _ = some oop from hopi)
            obtain rfl : b0 = true := by
              rcases Bool.eq_false_or_eq_true b0 with hbb | hbb
              · exact hbb
              · exfalso; subst hbb; revert hdep; simp [Region.binds]
            have e0 := f0 rfl
            subst e0
            refine step_to (a' := (updAll A0 [(26, (.pointer (some ⟨w.heap.size, 0, none⟩))), (27, v27), (28, v28), (29, v29), (30, v30), (31, v31), (32, v32), (9, v9)]).put (some 27) ((.slice (some ⟨bu, ou, none⟩) xs.length ca))) (w' := W) ?_ ?_
            · intro K' hK'
              subst hA0
              have c0 := hM.at_ (show (w.heap.size, 0, (.slice (some ⟨bu, ou, none⟩) xs.length ca)) ∈ _ from by simp); have c1 := hM.at_ (show (w.heap.size, 1, (.slice (some ⟨bv, ov, none⟩) xs.length cb)) ∈ _ from by simp); have c2 := hM.at_ (show (w.heap.size + 1, 0, (.slice none 0 0)) ∈ _ from by simp); have c3 := hM.at_ (show (w.heap.size + 1, 1, (.slice none 0 0)) ∈ _ from by simp)
              refine wpOp_plain rfl rfl ?_
              simp only [updAll, Act.put, List.setIfInBounds_toArray, List.set_cons_zero, List.set_cons_succ] at hK' ⊢
              go_wp2
              exact hK'
            · refine ⟨true, true, b2, b3, b4, b5, b6, b7, b8, (.pointer (some ⟨w.heap.size, 0, none⟩)), _, v28, v29, v30, v31, v32, v9, by rfl, ?_, fun _ => rfl, fun _ => rfl, f3, f4, hM, hz, hC⟩
              rw [← hA0]
              simp [updAll, Act.put]
          · obtain rfl : b2 = false := by simpa using hlst
            obtain rfl := Option.some.inj (show some _ = some oop from hopi)
            obtain rfl : b1 = true := by
              rcases Bool.eq_false_or_eq_true b1 with hbb | hbb
              · exact hbb
              · exfalso; subst hbb; revert hdep; simp [Region.binds]
            have e1 := f1 rfl
            subst e1
            refine step_ex (fun a' w' => ∃ x', a' = (updAll A0 [(26, v26), (27, (.slice (some ⟨bu, ou, none⟩) xs.length ca)), (28, v28), (29, v29), (30, v30), (31, v31), (32, v32), (9, v9)]).put (some 28) x' ∧ IntOwn w' W.heap.size x' xs ∧ Below W.heap.size W w') ?_ ?_
            · intro K' hK'
              subst hA0
              have c0 := hM.at_ (show (w.heap.size, 0, (.slice (some ⟨bu, ou, none⟩) xs.length ca)) ∈ _ from by simp); have c1 := hM.at_ (show (w.heap.size, 1, (.slice (some ⟨bv, ov, none⟩) xs.length cb)) ∈ _ from by simp); have c2 := hM.at_ (show (w.heap.size + 1, 0, (.slice none 0 0)) ∈ _ from by simp); have c3 := hM.at_ (show (w.heap.size + 1, 1, (.slice none 0 0)) ∈ _ from by simp)
              refine wpOp_plain rfl rfl ?_
              simp only [updAll, Act.put, List.setIfInBounds_toArray, List.set_cons_zero, List.set_cons_succ] at hK' ⊢
              go_wp2_with (go_at_call 40; refine (K1.out _ (HA.out.step (by first | exact hM.bel | exact bStep hM.bel (Below.refl _ _).drew))).mono ?_; rintro e w1 ⟨x', rfl, ox, hb1⟩)
              all_goals (first | exact ⟨_, rfl, ox, hb1⟩ | exact hK' _ _ ⟨_, rfl, ox, hb1⟩)
            · rintro a' w' ⟨x', rfl, ox, hb1⟩
              refine ⟨b0, true, true, b3, b4, b5, b6, b7, b8, v26, (.slice (some ⟨bu, ou, none⟩) xs.length ca), _, v29, v30, v31, v32, v9, by rfl, ?_, f0, fun _ => rfl, f3, f4, hM.step hb1, Nat.le_trans hz hb1.size, hC.mkX hne hz hb1 ox⟩
              rw [← hA0]
              simp [updAll, Act.put]
          · obtain rfl : b3 = false := by simpa using hlst
            obtain rfl := Option.some.inj (show some _ = some oop from hopi)
            refine step_to (a' := (updAll A0 [(26, v26), (27, v27), (28, v28), (29, v29), (30, v30), (31, v31), (32, v32), (9, v9)]).put (some 29) ((.pointer (some ⟨w.heap.size, 1, none⟩)))) (w' := W) ?_ ?_
            · intro K' hK'
              subst hA0
              have c0 := hM.at_ (show (w.heap.size, 0, (.slice (some ⟨bu, ou, none⟩) xs.length ca)) ∈ _ from by simp); have c1 := hM.at_ (show (w.heap.size, 1, (.slice (some ⟨bv, ov, none⟩) xs.length cb)) ∈ _ from by simp); have c2 := hM.at_ (show (w.heap.size + 1, 0, (.slice none 0 0)) ∈ _ from by simp); have c3 := hM.at_ (show (w.heap.size + 1, 1, (.slice none 0 0)) ∈ _ from by simp)
              refine wpOp_plain rfl rfl ?_
              simp only [updAll, Act.put, List.setIfInBounds_toArray, List.set_cons_zero, List.set_cons_succ] at hK' ⊢
              go_wp2
              exact hK'
            · refine ⟨b0, b1, b2, true, b4, b5, b6, b7, b8, v26, v27, v28, _, v30, v31, v32, v9, by rfl, ?_, f0, f1, fun _ => rfl, f4, hM, hz, hC⟩
              rw [← hA0]
              simp [updAll, Act.put]
          · obtain rfl : b4 = false := by simpa using hlst
            obtain rfl := Option.some.inj (show some _ = some oop from hopi)
            obtain rfl : b3 = true := by
              rcases Bool.eq_false_or_eq_true b3 with hbb | hbb
              · exact hbb
              · exfalso; subst hbb; revert hdep; simp [Region.binds]
            have e3 := f3 rfl
            subst e3
            refine step_to (a' := (updAll A0 [(26, v26), (27, v27), (28, v28), (29, (.pointer (some ⟨w.heap.size, 1, none⟩))), (30, v30), (31, v31), (32, v32), (9, v9)]).put (some 30) ((.slice (some ⟨bv, ov, none⟩) xs.length cb))) (w' := W) ?_ ?_
            · intro K' hK'
              subst hA0
              have c0 := hM.at_ (show (w.heap.size, 0, (.slice (some ⟨bu, ou, none⟩) xs.length ca)) ∈ _ from by simp); have c1 := hM.at_ (show (w.heap.size, 1, (.slice (some ⟨bv, ov, none⟩) xs.length cb)) ∈ _ from by simp); have c2 := hM.at_ (show (w.heap.size + 1, 0, (.slice none 0 0)) ∈ _ from by simp); have c3 := hM.at_ (show (w.heap.size + 1, 1, (.slice none 0 0)) ∈ _ from by simp)
              refine wpOp_plain rfl rfl ?_
              simp only [updAll, Act.put, List.setIfInBounds_toArray, List.set_cons_zero, List.set_cons_succ] at hK' ⊢
              go_wp2
              exact hK'
            · refine ⟨b0, b1, b2, true, true, b5, b6, b7, b8, v26, v27, v28, (.pointer (some ⟨w.heap.size, 1, none⟩)), _, v31, v32, v9, by rfl, ?_, f0, f1, fun _ => rfl, fun _ => rfl, hM, hz, hC⟩
              rw [← hA0]
              simp [updAll, Act.put]
          · obtain rfl : b5 = false := by simpa using hlst
            obtain rfl := Option.some.inj (show some _ = some oop from hopi)
            obtain rfl : b4 = true := by
              rcases Bool.eq_false_or_eq_true b4 with hbb | hbb
              · exact hbb
              · exfalso; subst hbb; revert hdep; simp [Region.binds]
            have e4 := f4 rfl
            subst e4
            refine step_ex (fun a' w' => ∃ x', a' = (updAll A0 [(26, v26), (27, v27), (28, v28), (29, v29), (30, (.slice (some ⟨bv, ov, none⟩) xs.length cb)), (31, v31), (32, v32), (9, v9)]).put (some 31) x' ∧ IntOwn w' W.heap.size x' ys ∧ Below W.heap.size W w') ?_ ?_
            · intro K' hK'
              subst hA0
              have c0 := hM.at_ (show (w.heap.size, 0, (.slice (some ⟨bu, ou, none⟩) xs.length ca)) ∈ _ from by simp); have c1 := hM.at_ (show (w.heap.size, 1, (.slice (some ⟨bv, ov, none⟩) xs.length cb)) ∈ _ from by simp); have c2 := hM.at_ (show (w.heap.size + 1, 0, (.slice none 0 0)) ∈ _ from by simp); have c3 := hM.at_ (show (w.heap.size + 1, 1, (.slice none 0 0)) ∈ _ from by simp)
              refine wpOp_plain rfl rfl ?_
              simp only [updAll, Act.put, List.setIfInBounds_toArray, List.set_cons_zero, List.set_cons_succ] at hK' ⊢
              go_wp2_with (go_at_call 40; refine (K2.out _ (HB.out.step (by first | exact hM.bel | exact bStep hM.bel (Below.refl _ _).drew))).mono ?_; rintro e w1 ⟨x', rfl, ox, hb1⟩)
              all_goals (first | exact ⟨_, rfl, ox, hb1⟩ | exact hK' _ _ ⟨_, rfl, ox, hb1⟩)
            · rintro a' w' ⟨x', rfl, ox, hb1⟩
              refine ⟨b0, b1, b2, b3, true, true, b6, b7, b8, v26, v27, v28, v29, (.slice (some ⟨bv, ov, none⟩) xs.length cb), _, v32, v9, by rfl, ?_, f0, f1, f3, fun _ => rfl, hM.step hb1, Nat.le_trans hz hb1.size, hC.mkY hne2 hz hb1 ox⟩
              rw [← hA0]
              simp [updAll, Act.put]
          · obtain rfl : b6 = false := by simpa using hlst
            obtain rfl := Option.some.inj (show some _ = some oop from hopi)
            obtain rfl : b2 = true := by
              rcases Bool.eq_false_or_eq_true b2 with hbb | hbb
              · exact hbb
              · exfalso; subst hbb; revert hdep; simp [Region.binds]
            obtain rfl : b5 = true := by
              rcases Bool.eq_false_or_eq_true b5 with hbb | hbb
              · exact hbb
              · exfalso; subst hbb; revert hdep; simp [Region.binds]
            refine step_to (a' := (updAll A0 [(26, v26), (27, v27), (28, v28), (29, v29), (30, v30), (31, v31), (32, v32), (9, v9)]).put (some 32) (.agg #[v28, v31])) (w' := W) ?_ ?_
            · intro K' hK'
              subst hA0
              obtain ⟨g1, c1, -, er1, -⟩ := hC.gx
              obtain ⟨g2, c2, -, er2, -⟩ := hC.gy
              subst er1 er2
              refine wpOp_plain rfl rfl ?_
              simp only [updAll, Act.put, List.setIfInBounds_toArray, List.set_cons_zero, List.set_cons_succ] at hK' ⊢
              go_wp2
              exact hK'
            · refine ⟨b0, b1, true, b3, b4, true, true, b7, b8, v26, v27, v28, v29, v30, v31, _, v9, by rfl, ?_, f0, f1, f3, f4, hM, hz, hC.mkA⟩
              rw [← hA0]
              simp [updAll, Act.put]
          · obtain rfl : b7 = false := by simpa using hlst
            obtain rfl := Option.some.inj (show some _ = some oop from hopi)
            refine step_to (a' := (updAll A0 [(26, v26), (27, v27), (28, v28), (29, v29), (30, v30), (31, v31), (32, v32), (9, v9)]).put (some 9) (.pointer (some ⟨W.heap.size, 0, none⟩))) (w' := W.alloc (.cells zCurve 24)) ?_ ?_
            · intro K' hK'
              subst hA0
              refine wpOp_plain rfl rfl ?_
              unfold zCurve at hK'
              simp only [updAll, Act.put, List.setIfInBounds_toArray, List.set_cons_zero, List.set_cons_succ] at hK' ⊢
              go_wp2
              exact hK'
            · refine ⟨b0, b1, b2, b3, b4, b5, b6, true, b8, v26, v27, v28, v29, v30, v31, v32, _, by rfl, ?_, f0, f1, f3, f4, hM.alloc, (by first | omega | (simp; omega) | simp), hC.mkS hz⟩
              rw [← hA0]
              simp [updAll, Act.put]
          · obtain rfl : b8 = false := by simpa using hlst
            obtain rfl := Option.some.inj (show some _ = some oop from hopi)
            obtain rfl : b7 = true := by
              rcases Bool.eq_false_or_eq_true b7 with hbb | hbb
              · exact hbb
              · exfalso; subst hbb; revert hdep; simp [Region.binds]
            obtain rfl : b6 = true := by
              rcases Bool.eq_false_or_eq_true b6 with hbb | hbb
              · exact hbb
              · exfalso; subst hbb; revert hdep; simp [Region.binds]
            obtain rfl : b2 = true := (hC.2.2.2.1 rfl).1
            obtain rfl : b5 = true := (hC.2.2.2.1 rfl).2.1
            have eA := hC.agg
            subst eA
            obtain ⟨r, er, hr2, hr3⟩ := hC.box
            subst er
            simp only [Bool.false_eq_true, if_false, zCurve] at hr3
            refine step_to (a' := updAll A0 [(26, v26), (27, v27), (28, v28), (29, v29), (30, v30), (31, v31), (32, .agg #[v28, v31]), (9, (.pointer (some ⟨r, 0, none⟩)))]) (w' := ((W.setCell ⟨r, 0, none⟩ v28).setCell ⟨r, 1, none⟩ v31)) ?_ ?_
            · intro K' hK'
              subst hA0
              obtain ⟨g1, c1, -, er1, -⟩ := hC.gx
              obtain ⟨g2, c2, -, er2, -⟩ := hC.gy
              subst er1 er2
              have q0 := blk_cell (o := 0) hr3 rfl
              have p0 := blk_free (o := 0) hr3
              have q1 := blk_cell (o := 1) hr3 rfl
              have p1 := blk_free (o := 1) hr3
              refine wpOp_plain rfl rfl ?_
              simp only [updAll, Act.put, List.setIfInBounds_toArray, List.set_cons_zero, List.set_cons_succ] at hK' ⊢
              go_wp2
              exact hK'
            · exact ⟨_, _, _, _, _, _, _, _, _, _, _, _, _, _, _, _, _, by rfl, rfl, f0, f1, f3, f4, (hM.set hr2).set hr2, by simpa using hz, hC.mkSt⟩
        case done =>
          rintro l a W ⟨b0, b1, b2, b3, b4, b5, b6, b7, b8, v26, v27, v28, v29, v30, v31, v32, v9, rfl, rfl, f0, f1, f3, f4, hM, hz, hC⟩ hall
          obtain rfl : b0 = true := by simpa using hall 0 (by decide)
          obtain rfl : b1 = true := by simpa using hall 1 (by decide)
          obtain rfl : b2 = true := by simpa using hall 2 (by decide)
          obtain rfl : b3 = true := by simpa using hall 3 (by decide)
          obtain rfl : b4 = true := by simpa using hall 4 (by decide)
          obtain rfl : b5 = true := by simpa using hall 5 (by decide)
          obtain rfl : b6 = true := by simpa using hall 6 (by decide)
          obtain rfl : b7 = true := by simpa using hall 7 (by decide)
          obtain rfl : b8 = true := by simpa using hall 8 (by decide)
          obtain ⟨r, gx, cx, gy, cy, er, hBox⟩ := hC.fin
          subst er
          subst hA0
          simp only [updAll, Act.put, List.setIfInBounds_toArray, List.set_cons_zero, List.set_cons_succ]
          go_wp2_with fail
          go_meet
          exact ⟨r, gx, cx, gy, cy, rfl, hBox, hM⟩
      case rest =>
        obtain ⟨r, gx, cx, gy, cy, rfl, hBox, hM⟩ := hcut
        clear HS hzw1
        have hlen : ∀ (zs ts : List Int), zs.length = xs.length → ts.length = ys.length → CuBox (w.heap.size + 2) r gx cx gy cy zs ts = CuBox (w.heap.size + 2) r gx cx gy cy zs ts := fun _ _ _ _ => rfl
        clear hlen
        obtain ⟨e1, e2, -, -, d1, d2, d3, d4, d5, d6⟩ := id hBox
        have c0 := hM.at_ (show (w.heap.size, 0, (.slice (some ⟨bu, ou, none⟩) xs.length ca)) ∈ _ from by simp); have c1 := hM.at_ (show (w.heap.size, 1, (.slice (some ⟨bv, ov, none⟩) xs.length cb)) ∈ _ from by simp); have c2 := hM.at_ (show (w.heap.size + 1, 0, (.slice none 0 0)) ∈ _ from by simp); have c3 := hM.at_ (show (w.heap.size + 1, 1, (.slice none 0 0)) ∈ _ from by simp)
        rw [← HL.out] at e2
        have HX := Lib.hid hBox
        have HKeep := Lib.hid hM
        clear hBox hM
        go_wp2_with fail
        go_loopw [36] (fun i wr => ∃ (k : Nat) (zs ts : List Int), k ≤ xs.length ∧ i = .int .i64 k ∧ mvRow xs zs dx k ∧ mvRow ys ts dy k ∧ CuBox (w.heap.size + 2) r gx cx gy cy zs ts wr ∧ Kf w (w.heap.size + 2) [(w.heap.size, 0, (.slice (some ⟨bu, ou, none⟩) xs.length ca)), (w.heap.size, 1, (.slice (some ⟨bv, ov, none⟩) xs.length cb)), (w.heap.size + 1, 0, (.slice none 0 0)), (w.heap.size + 1, 1, (.slice none 0 0))] (w.heap.size + 1) wr ∧ Hid (moveOk xs ys dx dy k)) (fun i _ => xs.length - (intOf i).toNat)
        case atStart => exact ⟨0, xs, ys, by omega, rfl, mvRow.zero, mvRow.zero, HX.out.step (by first | exact Below.refl _ _ | exact (Below.refl _ _).drew), HKeep.out.step (by first | exact Below.refl _ _ | exact (Below.refl _ _).drew), Lib.hid (fun k hk => absurd hk (by omega))⟩
        case round =>
          obtain ⟨k, zs, ts, hk, rfl, hz, ht, hBox, hM, HO⟩ := hrel
          clear HX HKeep c0 c1 c2 c3 e1 e2
          obtain ⟨e1, e2, f1, f2, -⟩ := id hBox
          rw [hz.1] at e1
          rw [ht.1, ← HL.out] at e2
          have c0 := hM.at_ (show (w.heap.size, 0, (.slice (some ⟨bu, ou, none⟩) xs.length ca)) ∈ _ from by simp); have c1 := hM.at_ (show (w.heap.size, 1, (.slice (some ⟨bv, ov, none⟩) xs.length cb)) ∈ _ from by simp); have c2 := hM.at_ (show (w.heap.size + 1, 0, (.slice none 0 0)) ∈ _ from by simp); have c3 := hM.at_ (show (w.heap.size + 1, 1, (.slice none 0 0)) ∈ _ from by simp)
          have HX := Lib.hid hBox
          have hbel := hM.bel
          have HK := Lib.hid hM
          have HZ := Lib.hid hz
          have HT := Lib.hid ht
          have hlz := hz.1
          have hlt_ : ts.length = ys.length := ht.1
          by_cases hlt : k < xs.length
          · obtain ⟨g1, g2⟩ := f1.cells (show k < zs.length by omega)
            obtain ⟨g3, g4⟩ := f2.cells (show k < ts.length by rw [hlt_, ← HL.out]; exact hlt)
            rw [hz.at_] at g1
            rw [ht.at_] at g3
            have q1 := HQ.out.1 k
            have q2 := HQ.out.2 k
            have HN := Lib.hid (show isQ (xs.getD k 0 + dx) = true → isQ (ys.getD k 0 + dy) = true → moveOk xs ys dx dy (k + 1) from fun a b j hj => by
              rcases Nat.lt_or_ge j k with h' | h'
              · exact HO.out j h'
              · obtain rfl : j = k := by omega
                exact ⟨a, b⟩)
            have HF := Lib.hid (show (isQ (xs.getD k 0 + dx) = false ∨ isQ (ys.getD k 0 + dy) = false) → R = (([], []), 4) from fun h => by
              rw [HM.out, if_neg]
              intro hh
              have := hh k hlt
              rcases h with h | h
              · exact absurd (h.symm.trans this.1) (by decide)
              · exact absurd (h.symm.trans this.2) (by decide))
            have HX2 := Lib.hid (show ∀ W, CuBox (w.heap.size + 2) r gx cx gy cy zs ts W → CuBox (w.heap.size + 2) r gx cx gy cy (zs.set k (xs.getD k 0 + dx)) (ts.set k (ys.getD k 0 + dy)) ((W.setCell ⟨gx, k, none⟩ (.int .i64 (xs.getD k 0 + dx))).setCell ⟨gy, k, none⟩ (.int .i64 (ys.getD k 0 + dy))) from fun W h => (h.setX (by omega)).setY (by rw [hlt_, ← HL.out]; exact hlt))
            have HZ2 := Lib.hid (hz.next hlt)
            have HT2 := Lib.hid (ht.next (show k < ys.length by rw [← HL.out]; exact hlt))
            clear hz ht HZ HT HQ hBox hM f1 f2 hlz hlt_ HO
            generalize xs.getD k 0 = x1 at *
            generalize ys.getD k 0 = y1 at *
            have a1 : IntKind.i64.wrap (x1 + dx) = x1 + dx := Go.IntWalk.i64_in _ ⟨by omega, by omega⟩
            have a2 : IntKind.i64.wrap (y1 + dy) = y1 + dy := Go.IntWalk.i64_in _ ⟨by omega, by omega⟩
            clear hne hne2
            by_cases b1 : isQ (x1 + dx) = true
            · by_cases b2 : isQ (y1 + dy) = true
              · have HN2 := Lib.hid (HN.out b1 b2)
                clear HN HF
                go_wp2_with (go_at_call 39; refine (is_any _ _).mono ?_; rintro e w' ⟨rfl, rfl⟩)
                go_roundw
                case rel => exact ⟨k + 1, _, _, by omega, by go_num, HZ2.out, HT2.out, HX2.out _ HX.out, (HK.out.set d4).set d5, HN2⟩
                case measure => (simp [intOf]; omega)
              · obtain b2 : isQ (y1 + dy) = false := by simpa using b2
                have hR := HF.out (Or.inr b2)
                subst hR
                have fr0 := HK.out.free (o := 0)
                have fr1 := HK.out.free (o := 1)
                have n1 : w.heap.size + 1 ≠ gx := by omega
                have n2 : w.heap.size + 1 ≠ gy := by omega
                clear HN HF
                go_wp2_with (go_at_call 39; refine (is_any _ _).mono ?_; rintro e w' ⟨rfl, rfl⟩)
                exact bodyPost_ret (v := .tuple #[.agg #[.slice none 0 0, .slice none 0 0], .int .i64 4]) (by simp only [results, Try.results7]; go_simp) rfl ⟨_, _, rfl, CuOut.nil, (by repeat' (first | exact Below.refl _ _ | assumption | apply bDrewN | apply bDrew | apply bAlloc | (refine bSet ?_ ?_ _) | (refine bStep ?_ (by assumption)) | omega | (simp <;> omega)))⟩
            · obtain b1 : isQ (x1 + dx) = false := by simpa using b1
              have hR := HF.out (Or.inl b1)
              subst hR
              have fr0 := HK.out.free (o := 0)
              have fr1 := HK.out.free (o := 1)
              have n1 : w.heap.size + 1 ≠ gx := by omega
              have n2 : w.heap.size + 1 ≠ gy := by omega
              clear HN HF
              go_wp2_with (go_at_call 39; refine (is_any _ _).mono ?_; rintro e w' ⟨rfl, rfl⟩)
              exact bodyPost_ret (v := .tuple #[.agg #[.slice none 0 0, .slice none 0 0], .int .i64 4]) (by simp only [results, Try.results7]; go_simp) rfl ⟨_, _, rfl, CuOut.nil, (by repeat' (first | exact Below.refl _ _ | assumption | apply bDrewN | apply bDrew | apply bAlloc | (refine bSet ?_ ?_ _) | (refine bStep ?_ (by assumption)) | omega | (simp <;> omega)))⟩
          · have hR : R = ((zs, ts), 0) := by
              rw [HM.out, if_pos (show moveOk xs ys dx dy xs.length from fun j hj => HO.out j (by omega)), hz.all (show xs.length ≤ k by omega), ht.all (show ys.length ≤ k by rw [← HL.out]; omega)]
            subst hR
            have fr0 := HK.out.free (o := 0)
            have fr1 := HK.out.free (o := 1)
            have n1 : gx ≠ w.heap.size + 1 := by omega
            have n2 : gy ≠ w.heap.size + 1 := by omega
            have hOut := Lib.hid (show ∀ a b, CuOut w.heap.size (.slice (some ⟨gx, 0, none⟩) xs.length cx) (.slice (some ⟨gy, 0, none⟩) xs.length cy) zs ts ((wr.setCell ⟨w.heap.size + 1, 0, none⟩ a).setCell ⟨w.heap.size + 1, 1, none⟩ b) from fun a b => by
              refine Or.inr ⟨gx, cx, gy, cy, by rw [hz.1], by rw [ht.1, HL.out], by omega, by omega, d1, (f1.far n1).far n1, (f2.far n2).far n2⟩)
            clear hne hne2 f1 f2 hz ht hlz hlt_ HZ HT HQ HO hBox hM
            go_wp2_with fail
            exact bodyPost_ret (v := .tuple #[.agg #[.slice (some ⟨gx, 0, none⟩) xs.length cx, .slice (some ⟨gy, 0, none⟩) xs.length cy], .int .i64 0]) (by simp only [results, Try.results7]; go_simp) rfl ⟨_, _, rfl, hOut.out _ _, (by repeat' (first | exact Below.refl _ _ | assumption | apply bDrewN | apply bDrew | apply bAlloc | (refine bSet ?_ ?_ _) | (refine bStep ?_ (by assumption)) | omega | (simp <;> omega)))⟩

    · have hm : moveS xs ys dx dy = (([], []), 2) := by unfold moveS; rw [if_neg (by simp [h1]), if_pos h2]
      rw [hm]
      rw [h1] at C
      have h3 : isQ dx = false ∨ (isQ dx = true ∧ isQ dy = false) := by
        cases h : isQ dx <;> cases h' : isQ dy <;> simp [h, h'] at h2 ⊢
      clear hm h1 h2 hx hy
      rcases h3 with h3 | ⟨h3, h4⟩
      all_goals
        go_enter Try.func7, Try.ntmps7
        go_wp2_with (first | (go_at_call 12; refine (C.out _ (HA.out.step (by repeat' (first | exact Below.refl _ _ | assumption | apply bDrewN | apply bDrew | apply bAlloc | (refine bSet ?_ ?_ _) | (refine bStep ?_ (by assumption)) | omega | (simp <;> omega)))) (HB.out.step (by repeat' (first | exact Below.refl _ _ | assumption | apply bDrewN | apply bDrew | apply bAlloc | (refine bSet ?_ ?_ _) | (refine bStep ?_ (by assumption)) | omega | (simp <;> omega))))).mono ?_; rintro e w1 ⟨rfl, hb1⟩; obtain ⟨hcw1, hfw1⟩ := bcell hb1; have hzw1 := Below.size hb1; (try simp at hzw1); have hzw10 : w.heap.size < w1.heap.size := (by omega); have hzw11 : w.heap.size + 1 < w1.heap.size := (by omega)) | (go_at_call 39; refine (is_any _ _).mono ?_; rintro e w' ⟨rfl, rfl⟩))
        exact bodyPost_ret (v := .tuple #[.agg #[.slice none 0 0, .slice none 0 0], .int .i64 2]) (by simp only [results, Try.results7]; go_simp) rfl ⟨_, _, rfl, CuOut.nil, (by repeat' (first | exact Below.refl _ _ | assumption | apply bDrewN | apply bDrew | apply bAlloc | (refine bSet ?_ ?_ _) | (refine bStep ?_ (by assumption)) | omega | (simp <;> omega)))⟩
  · have hm : moveS xs ys dx dy = (([], []), checkC xs ys) := if_pos h1
    rw [hm]
    generalize checkC xs ys = r at *
    clear hm hx hy
    go_enter Try.func7, Try.ntmps7
    go_wp2_with (go_at_call 12; refine (C.out _ (HA.out.step (by repeat' (first | exact Below.refl _ _ | assumption | apply bDrewN | apply bDrew | apply bAlloc | (refine bSet ?_ ?_ _) | (refine bStep ?_ (by assumption)) | omega | (simp <;> omega)))) (HB.out.step (by repeat' (first | exact Below.refl _ _ | assumption | apply bDrewN | apply bDrew | apply bAlloc | (refine bSet ?_ ?_ _) | (refine bStep ?_ (by assumption)) | omega | (simp <;> omega))))).mono ?_; rintro e w1 ⟨rfl, hb1⟩; obtain ⟨hcw1, hfw1⟩ := bcell hb1; have hzw1 := Below.size hb1; (try simp at hzw1); have hzw10 : w.heap.size < w1.heap.size := (by omega); have hzw11 : w.heap.size + 1 < w1.heap.size := (by omega))
    exact bodyPost_ret (v := .tuple #[.agg #[.slice none 0 0, .slice none 0 0], .int .i64 r]) (by simp only [results, Try.results7]; go_simp) rfl ⟨_, _, rfl, CuOut.nil, (by repeat' (first | exact Below.refl _ _ | assumption | apply bDrewN | apply bDrew | apply bAlloc | (refine bSet ?_ ?_ _) | (refine bStep ?_ (by assumption)) | omega | (simp <;> omega)))⟩

end Go.Proofs.Ytngnehlmbipabaa

/-
  The values of a curve: plain law.
-/
set_option linter.unusedSimpArgs false
set_option linter.unusedVariables false
namespace Go.Proofs.Ytngnehlmbipabaa
def vAt (xs ys : List Int) (x : Int) (k : Nat) : Int × Int :=
  (ys.getD k 0 + dn (x - xs.getD k 0) (ys.getD (k + 1) 0 - ys.getD k 0) (xs.getD (k + 1) 0 - xs.getD k 0), ys.getD k 0 + up (x - xs.getD k 0) (ys.getD (k + 1) 0 - ys.getD k 0) (xs.getD (k + 1) 0 - xs.getD k 0))
def vS (xs ys : List Int) (x : Int) : Nat → Int × Int
  | 0 => (ys.getD 0 0, ys.getD 0 0)
  | k + 1 => if x < xs.getD k 0 then vS xs ys x k else vAt xs ys x k
def valS (xs ys : List Int) (x : Int) : Int × Int :=
  if xs.getD (xs.length - 1) 0 ≤ x then (ys.getD (xs.length - 1) 0, ys.getD (xs.length - 1) 0) else vS xs ys x (xs.length - 1)
theorem x_lt {xs ys : List Int} (h : ∀ k, k < xs.length - 1 → rising xs ys k) : ∀ {j k : Nat}, j ≤ k → k < xs.length → xs.getD j 0 ≤ xs.getD k 0 ∧ ys.getD j 0 ≤ ys.getD k 0 ∧ (j < k → xs.getD j 0 < xs.getD k 0) := by
  intro j k hjk hk
  induction k with
  | zero =>
    obtain rfl : j = 0 := by omega
    exact ⟨Int.le_refl _, Int.le_refl _, fun h => by omega⟩
  | succ k ih =>
    have r := h k (by omega)
    rcases Nat.lt_or_ge k j with c | c
    · obtain rfl : j = k + 1 := by omega
      exact ⟨Int.le_refl _, Int.le_refl _, fun h => by omega⟩
    · obtain ⟨q1, q2, -⟩ := ih c (by omega)
      have r1 := r.1
      have r2 := r.2
      exact ⟨by omega, by omega, fun _ => by omega⟩
/-- Behind the first number that is too great nothing turns. -/
theorem vS_stop {xs ys : List Int} {x : Int} (h : ∀ k, k < xs.length - 1 → rising xs ys k) {k : Nat} (hk : x < xs.getD k 0) : ∀ j, k ≤ j → j ≤ xs.length - 1 → vS xs ys x j = vS xs ys x k := by
  intro j
  induction j with
  | zero =>
    intro h1 _
    have : k = 0 := by omega
    subst this
    rfl
  | succ j ih =>
    intro h1 h2
    rcases Nat.lt_or_ge j k with c | c
    · have e : k = j + 1 := by omega
      subst e
      rfl
    · have := (x_lt h c (show j < xs.length by omega)).1
      rw [show vS xs ys x (j + 1) = if x < xs.getD j 0 then vS xs ys x j else vAt xs ys x j from rfl, if_pos (by omega)]
      exact ih c (by omega)
theorem dn_pos {x n d : Int} (hx1 : -131072 ≤ x) (hx2 : x ≤ 131072) (hn1 : -131072 ≤ n) (hn2 : n ≤ 131072) (hd : 0 < d) : dn x n d * d ≤ x * n ∧ x * n < (dn x n d + 1) * d := by
  have h := dn_floor hx1 hx2 hn1 hn2 (show d ≠ 0 by omega)
  have e1 : (d.natAbs : Int) = d := Int.natAbs_of_nonneg (by omega)
  have e2 : sg d = 1 := by unfold sg; rw [if_neg (by omega), if_pos hd]
  rw [e1, e2, Int.mul_one] at h
  rw [Int.add_mul, Int.one_mul]
  exact h
theorem up_pos {x n d : Int} (hx1 : -131072 ≤ x) (hx2 : x ≤ 131072) (hn1 : -131072 ≤ n) (hn2 : n ≤ 131072) (hd : 0 < d) : (up x n d - 1) * d < x * n ∧ x * n ≤ up x n d * d := by
  have h := dn_pos (x := -x) (n := n) (by omega) (by omega) hn1 hn2 hd
  unfold up
  rw [Int.neg_mul] at h
  rw [Int.sub_mul, Int.neg_mul, Int.one_mul]
  rw [Int.add_mul, Int.one_mul] at h
  omega
/-- A small curve. -/
structure SmC (xs ys : List Int) : Prop where
  len : xs.length = ys.length
  two : 2 ≤ xs.length
  bx : ∀ k, -60000 ≤ xs.getD k 0 ∧ xs.getD k 0 ≤ 60000
  by_ : ∀ k, -60000 ≤ ys.getD k 0 ∧ ys.getD k 0 ≤ 60000
  ris : ∀ k, k < xs.length - 1 → rising xs ys k
section
variable {xs ys : List Int} (h : SmC xs ys)
include h
theorem SmC.at_ {x : Int} {k : Nat} (hk : k < xs.length - 1) (h1 : xs.getD k 0 ≤ x) (h2 : x ≤ xs.getD (k + 1) 0) : ys.getD k 0 ≤ (vAt xs ys x k).1 ∧ (vAt xs ys x k).2 ≤ ys.getD (k + 1) 0 ∧ (vAt xs ys x k).1 ≤ (vAt xs ys x k).2 ∧ (vAt xs ys x k).2 ≤ (vAt xs ys x k).1 + 1 := by
  have r := h.ris k hk
  unfold rising at r
  have b1 := h.bx k
  have b2 := h.bx (k + 1)
  have b3 := h.by_ k
  have b4 := h.by_ (k + 1)
  unfold vAt
  dsimp only
  generalize xs.getD k 0 = X0 at *
  generalize xs.getD (k + 1) 0 = X1 at *
  generalize ys.getD k 0 = Y0 at *
  generalize ys.getD (k + 1) 0 = Y1 at *
  have d1 := dn_pos (x := x - X0) (n := Y1 - Y0) (d := X1 - X0) (by omega) (by omega) (by omega) (by omega) (by omega)
  have d2 := up_pos (x := x - X0) (n := Y1 - Y0) (d := X1 - X0) (by omega) (by omega) (by omega) (by omega) (by omega)
  have p1 : 0 ≤ (x - X0) * (Y1 - Y0) := Int.mul_nonneg (by omega) (by omega)
  have p2 : (x - X0) * (Y1 - Y0) ≤ (X1 - X0) * (Y1 - Y0) := Int.mul_le_mul_of_nonneg_right (by omega) (by omega)
  have hd : 0 < X1 - X0 := by omega
  generalize dn (x - X0) (Y1 - Y0) (X1 - X0) = q at *
  generalize up (x - X0) (Y1 - Y0) (X1 - X0) = u at *
  generalize (x - X0) * (Y1 - Y0) = P at *
  rw [Int.mul_comm (X1 - X0) (Y1 - Y0)] at p2
  generalize X1 - X0 = D at *
  have a1 : -1 < q := Int.lt_of_mul_lt_mul_right (a := D) (by rw [Int.neg_mul, Int.one_mul]; have := d1.2; rw [Int.add_mul, Int.one_mul] at this; omega) (by omega)
  have a2 : u - 1 < Y1 - Y0 := Int.lt_of_mul_lt_mul_right (a := D) (by omega) (by omega)
  have a3 : q ≤ u := Int.le_of_mul_le_mul_right (a := D) (by omega) hd
  have a4 : u - 1 < q + 1 := Int.lt_of_mul_lt_mul_right (a := D) (by omega) (by omega)
  omega
theorem SmC.mono_at {x x' : Int} {k : Nat} (hk : k < xs.length - 1) (h1 : xs.getD k 0 ≤ x) (h2 : x ≤ x') (h3 : x' ≤ xs.getD (k + 1) 0) : (vAt xs ys x k).1 ≤ (vAt xs ys x' k).1 ∧ (vAt xs ys x k).2 ≤ (vAt xs ys x' k).2 := by
  have r := h.ris k hk
  unfold rising at r
  have b1 := h.bx k
  have b2 := h.bx (k + 1)
  have b3 := h.by_ k
  have b4 := h.by_ (k + 1)
  unfold vAt
  dsimp only
  generalize xs.getD k 0 = X0 at *
  generalize xs.getD (k + 1) 0 = X1 at *
  generalize ys.getD k 0 = Y0 at *
  generalize ys.getD (k + 1) 0 = Y1 at *
  have d1 := dn_pos (x := x - X0) (n := Y1 - Y0) (d := X1 - X0) (by omega) (by omega) (by omega) (by omega) (by omega)
  have d2 := up_pos (x := x - X0) (n := Y1 - Y0) (d := X1 - X0) (by omega) (by omega) (by omega) (by omega) (by omega)
  have e1 := dn_pos (x := x' - X0) (n := Y1 - Y0) (d := X1 - X0) (by omega) (by omega) (by omega) (by omega) (by omega)
  have e2 := up_pos (x := x' - X0) (n := Y1 - Y0) (d := X1 - X0) (by omega) (by omega) (by omega) (by omega) (by omega)
  have p2 : (x - X0) * (Y1 - Y0) ≤ (x' - X0) * (Y1 - Y0) := Int.mul_le_mul_of_nonneg_right (by omega) (by omega)
  have hd : 0 < X1 - X0 := by omega
  generalize dn (x - X0) (Y1 - Y0) (X1 - X0) = q at *
  generalize up (x - X0) (Y1 - Y0) (X1 - X0) = u at *
  generalize dn (x' - X0) (Y1 - Y0) (X1 - X0) = q' at *
  generalize up (x' - X0) (Y1 - Y0) (X1 - X0) = u' at *
  generalize (x - X0) * (Y1 - Y0) = P at *
  generalize (x' - X0) * (Y1 - Y0) = P' at *
  generalize X1 - X0 = D at *
  have a1 : q < q' + 1 := Int.lt_of_mul_lt_mul_right (a := D) (by omega) (by omega)
  have a2 : u - 1 < u' := Int.lt_of_mul_lt_mul_right (a := D) (by omega) (by omega)
  omega
omit h in
theorem SmC_find {x : Int} (h0 : xs.getD 0 0 ≤ x) : ∀ j, 1 ≤ j → j ≤ xs.length - 1 → ∃ k, k < j ∧ xs.getD k 0 ≤ x ∧ vS xs ys x j = vAt xs ys x k ∧ (k + 1 = j ∨ x < xs.getD (k + 1) 0) := by
  intro j
  induction j with
  | zero => intro h1; omega
  | succ j ih =>
    intro _ h2
    by_cases c : x < xs.getD j 0
    · have hj : 1 ≤ j := by
        rcases Nat.eq_zero_or_pos j with e | e
        · subst e; omega
        · exact e
      obtain ⟨k, q1, q2, q3, q4⟩ := ih hj (by omega)
      refine ⟨k, by omega, q2, ?_, Or.inr ?_⟩
      · unfold vS
        rw [if_pos c, q3]
      · rcases q4 with e | e
        · rw [e]; exact c
        · exact e
    · exact ⟨j, by omega, by omega, by unfold vS; rw [if_neg c], Or.inl rfl⟩
/-- Where a number lies. -/
theorem SmC.where_ (x : Int) : (x < xs.getD 0 0 ∧ valS xs ys x = (ys.getD 0 0, ys.getD 0 0)) ∨ (xs.getD (xs.length - 1) 0 ≤ x ∧ valS xs ys x = (ys.getD (xs.length - 1) 0, ys.getD (xs.length - 1) 0)) ∨
    ∃ k, k < xs.length - 1 ∧ xs.getD k 0 ≤ x ∧ x < xs.getD (k + 1) 0 ∧ valS xs ys x = vAt xs ys x k := by
  have h2 := h.two
  by_cases c : xs.getD (xs.length - 1) 0 ≤ x
  · exact Or.inr (Or.inl ⟨c, if_pos c⟩)
  · by_cases c2 : x < xs.getD 0 0
    · refine Or.inl ⟨c2, ?_⟩
      unfold valS
      rw [if_neg c, vS_stop h.ris c2 _ (by omega) (Nat.le_refl _)]
      rfl
    · obtain ⟨k, q1, q2, q3, q4⟩ := SmC_find (xs := xs) (ys := ys) (x := x) (by omega) (xs.length - 1) (by omega) (Nat.le_refl _)
      refine Or.inr (Or.inr ⟨k, q1, q2, ?_, ?_⟩)
      · rcases q4 with e | e
        · rw [e]; omega
        · exact e
      · unfold valS
        rw [if_neg c, q3]
theorem SmC.near (x : Int) : (valS xs ys x).1 ≤ (valS xs ys x).2 ∧ (valS xs ys x).2 ≤ (valS xs ys x).1 + 1 := by
  rcases h.where_ x with ⟨-, e⟩ | ⟨-, e⟩ | ⟨k, q1, q2, q3, e⟩
  · rw [e]; exact ⟨Int.le_refl _, by omega⟩
  · rw [e]; exact ⟨Int.le_refl _, by omega⟩
  · rw [e]
    have := h.at_ q1 q2 (by omega)
    exact ⟨this.2.2.1, this.2.2.2⟩
theorem SmC.mono {x x' : Int} (hx : x ≤ x') : (valS xs ys x).1 ≤ (valS xs ys x').1 ∧ (valS xs ys x).2 ≤ (valS xs ys x').2 := by
  have h2 := h.two
  have top := x_lt h.ris (j := 0) (k := xs.length - 1) (by omega) (by omega)
  rcases h.where_ x with ⟨c, e⟩ | ⟨c, e⟩ | ⟨k, q1, q2, q3, e⟩ <;> rcases h.where_ x' with ⟨c', e'⟩ | ⟨c', e'⟩ | ⟨k', q1', q2', q3', e'⟩ <;> rw [e, e']
  · exact ⟨Int.le_refl _, Int.le_refl _⟩
  · exact ⟨top.2.1, top.2.1⟩
  · have a := h.at_ q1' q2' (by omega)
    have m := (x_lt h.ris (j := 0) (k := k') (by omega) (by omega)).2.1
    dsimp only
    omega
  · omega
  · exact ⟨Int.le_refl _, Int.le_refl _⟩
  · have m := (x_lt h.ris (j := k' + 1) (k := xs.length - 1) (by omega) (by omega)).1
    omega
  · have m := (x_lt h.ris (j := 0) (k := k) (by omega) (by omega)).1
    omega
  · have a := h.at_ q1 q2 (by omega)
    have m := (x_lt h.ris (j := k + 1) (k := xs.length - 1) (by omega) (by omega)).2.1
    dsimp only
    omega
  · rcases Nat.lt_trichotomy k k' with l | l | l
    · have a := h.at_ q1 q2 (by omega)
      have a' := h.at_ q1' q2' (by omega)
      have m := (x_lt h.ris (j := k + 1) (k := k') (by omega) (by omega)).2.1
      omega
    · subst l
      exact h.mono_at q1 q2 hx (by omega)
    · have m := (x_lt h.ris (j := k' + 1) (k := k) (by omega) (by omega)).1
      omega
end
end Go.Proofs.Ytngnehlmbipabaa
