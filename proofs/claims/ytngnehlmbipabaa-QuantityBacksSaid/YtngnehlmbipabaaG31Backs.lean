/-
  The reference's check, CheckBox, BoxHas, BoxInside, boxes.
-/
import Derived.Test.YtngnehlmbipabaaG30Backs
import Derived.Test.YtngnehlmbipabaaG9Backs
import Derived.Test.YtngnehlmbipabaaG22Backs
set_option linter.unusedSimpArgs false
set_option linter.unusedVariables false
namespace Go.Proofs.Ytngnehlmbipabaa
open Go.RowKit
theorem getD_at {α : Type} {l : List α} {k : Nat} {d : α} (h : k < l.length) : l.getD k d = l[k] := by simp [List.getD, List.getElem?_eq_getElem h]
theorem all_ok {l : List (Int × Int)} : l.all okS = true ↔ ∀ k, k < l.length → okS (l.getD k (0, 0)) = true := by
  rw [List.all_eq_true]
  constructor
  · intro h k hk
    rw [getD_at hk]
    exact h _ (List.getElem_mem hk)
  · intro h s hs
    obtain ⟨k, hk, rfl⟩ := List.getElem_of_mem hs
    have := h k hk
    rwa [getD_at hk] at this
set_option maxHeartbeats 2000000 in
set_option maxRecDepth 20000 in
theorem Rcheck_row (v : Value) (l : List (Int × Int)) (w : World) (hl : l.length ≤ 9223372036854775807) (hv : SpRow v l w) :
    Calls Try.prog 60 #[v] w fun e w' => e = .returned (.int .i64 (if l.all okS = true then 0 else 2)) ∧ Below w.heap.size w w' := by
  obtain ⟨a, ca, rfl, hA⟩ := hv
  have hg1 : Hid ((∀ k, k < l.length → okS (l.getD k (0, 0)) = true) → (if l.all okS = true then (0 : Int) else 2) = 0) := fun h => if_pos (all_ok.2 h)
  have hg2 : Hid (∀ k, k < l.length → okS (l.getD k (0, 0)) = false → (if l.all okS = true then (0 : Int) else 2) = 2) := fun k hk h => if_neg fun h' => by
    have := all_ok.1 h' k hk
    rw [h] at this
    cases this
  generalize (if l.all okS = true then (0 : Int) else 2) = r at *
  have HA := Lib.hid hA
  clear hA
  go_enter Try.func60, Try.ntmps60
  go_wp2_with fail
  go_loopw [3] (fun i wr => ∃ k : Nat, k ≤ l.length ∧ i = .int .i64 k ∧ Hid (Below w.heap.size w wr) ∧ Hid (∀ j, j < k → okS (l.getD j (0, 0)) = true)) (fun i _ => l.length - (intOf i).toNat)
  case atStart => exact ⟨0, by omega, rfl, Below.refl _ _, fun j hj => by omega⟩
  case round =>
    obtain ⟨k, hk, rfl, HB, HI⟩ := hrel
    by_cases hlt : k < l.length
    · obtain ⟨bu, ou, rfl, hc⟩ := (HA.out.step HB.out) (fun h => by rw [h] at hlt; simp at hlt)
      obtain ⟨q1, q2⟩ := hc.at_ hlt
      have hgk : l.getD k (0, 0) = l[k] := getD_at hlt
      have hlt2 : (k : Int) < l.length := by omega
      have HI2 : Hid (okS l[k] = true → ∀ j, j < k + 1 → okS (l.getD j (0, 0)) = true) := by
        intro h j hj
        rcases Nat.lt_or_ge j k with h' | h'
        · exact HI.out j h'
        · obtain rfl : j = k := by omega
          rw [hgk]; exact h
      have HN2 : Hid (okS l[k] = false → r = 2) := fun h => hg2.out k hlt (by rw [hgk]; exact h)
      clear hc hgk HI hg1 hg2
      generalize l[k] = x at *
      obtain ⟨x1, x2⟩ := x
      dsimp only at *
      cases hx : okS (x1, x2)
      · have hr := HN2.out hx
        subst hr
        clear HI2 HN2
        have hb := HB.out
        go_wp2_with (go_at_call 86; refine (Valid_any _ _ _).mono ?_; rw [hx]; rintro e w1 ⟨rfl, hb1⟩)
        go_ret
        exact ⟨rfl, (by repeat' (first | exact Below.refl _ _ | assumption | apply bDrewN | apply bDrew | apply bAlloc | (refine bSet ?_ ?_ _) | (refine bStep ?_ (by assumption)) | omega | (simp <;> omega)))⟩
      · have HI3 := Lib.hid (HI2.out hx)
        clear HI2 HN2
        have hb := HB.out
        go_wp2_with (go_at_call 86; refine (Valid_any _ _ _).mono ?_; rw [hx]; rintro e w1 ⟨rfl, hb1⟩)
        go_roundw
        case rel => exact ⟨k + 1, by omega, by push_cast; rfl, bStep hb hb1, HI3.out⟩
        case measure => (simp [intOf]; omega)
    · have hr := hg1.out (fun j hj => HI.out j (by omega))
      subst hr
      have hle : ¬ (k : Int) < l.length := by omega
      have hb := HB.out
      go_wp2_with fail
      go_ret
      exact ⟨rfl, (by repeat' (first | exact Below.refl _ _ | assumption | apply bDrewN | apply bDrew | apply bAlloc | (refine bSet ?_ ?_ _) | (refine bStep ?_ (by assumption)) | omega | (simp <;> omega)))⟩
set_option maxHeartbeats 1000000 in
theorem RCheckBox_row (v : Value) (l : List (Int × Int)) (w : World) (hl : l.length ≤ 9223372036854775807) (hv : SpRow v l w) :
    Calls Try.prog 20 #[v] w fun e w' => e = .returned (.int .i64 (checkB l)) ∧ Below w.heap.size w w' := by
  have C := Lib.hid (fun w h => Rcheck_row v l w hl h)
  have HV := Lib.hid hv
  obtain ⟨a, ca, rfl, -⟩ := hv
  unfold checkB
  by_cases h : 8 < l.length
  · rw [if_pos h]
    have h' : (8 : Int) < l.length := by omega
    clear h
    go_enter Try.func20, Try.ntmps20
    go_wp2_with fail
    go_ret
    exact ⟨rfl, (by repeat' (first | exact Below.refl _ _ | assumption | apply bDrewN | apply bDrew | apply bAlloc | (refine bSet ?_ ?_ _) | (refine bStep ?_ (by assumption)) | omega | (simp <;> omega)))⟩
  · rw [if_neg h]
    have h' : ¬ (8 : Int) < l.length := by omega
    generalize (if l.all okS = true then (0 : Int) else 2) = r at *
    clear h
    go_enter Try.func20, Try.ntmps20
    go_wp2_with (go_at_call 60; refine (C.out _ HV.out).mono ?_; rintro e w1 ⟨rfl, hb1⟩)
    go_ret
    exact ⟨rfl, (by repeat' (first | exact Below.refl _ _ | assumption | apply bDrewN | apply bDrew | apply bAlloc | (refine bSet ?_ ?_ _) | (refine bStep ?_ (by assumption)) | omega | (simp <;> omega)))⟩
def boxesS (l m : List (Int × Int)) : Int := if 8 < max l.length m.length then 6 else if ¬ (l.all okS = true ∧ m.all okS = true) then 2 else if l.length ≠ m.length then 20 else 0
set_option maxHeartbeats 1000000 in
theorem Rboxes_row (v u : Value) (l m : List (Int × Int)) (w : World) (hl : l.length ≤ 1000000) (hm : m.length ≤ 1000000) (hv : SpRow v l w) (hu : SpRow u m w) :
    Calls Try.prog 68 #[v, u] w fun e w' => e = .returned (.int .i64 (boxesS l m)) ∧ Below w.heap.size w w' := by
  have C := Lib.hid (fun w h => Rcheck_row v l w (by omega) h)
  have D := Lib.hid (fun w h => Rcheck_row u m w (by omega) h)
  have HV := Lib.hid hv
  have HU := Lib.hid hu
  obtain ⟨a, ca, rfl, -⟩ := hv
  obtain ⟨b, cb, rfl, -⟩ := hu
  unfold boxesS
  by_cases h : 8 < max l.length m.length
  · rw [if_pos h]
    have h' : 8 < (l.length : Int) ∨ ((l.length : Int) ≤ 8 ∧ 8 < (m.length : Int)) := by omega
    clear h
    rcases h' with h1 | ⟨h1, h2⟩
    all_goals
      go_enter Try.func68, Try.ntmps68
      go_wp2_with fail
      go_ret
      exact ⟨rfl, (by repeat' (first | exact Below.refl _ _ | assumption | apply bDrewN | apply bDrew | apply bAlloc | (refine bSet ?_ ?_ _) | (refine bStep ?_ (by assumption)) | omega | (simp <;> omega)))⟩
  · rw [if_neg h]
    have h1 : (l.length : Int) ≤ 8 := by omega
    have h2 : (m.length : Int) ≤ 8 := by omega
    clear h
    cases hx : l.all okS <;> cases hy : m.all okS
    all_goals rw [hx] at C; rw [hy] at D
    all_goals simp only [Bool.false_eq_true, if_false, if_true, false_and, and_false, not_false_iff, not_true, and_self] at C D ⊢
    · go_enter Try.func68, Try.ntmps68
      go_wp2_with (go_at_call 60; first | (with_reducible refine (C.out _ (HV.out.step (by repeat' (first | exact Below.refl _ _ | assumption | apply bDrewN | apply bDrew | apply bAlloc | (refine bSet ?_ ?_ _) | (refine bStep ?_ (by assumption)) | omega | (simp <;> omega))))).mono ?_; rintro e w1 ⟨rfl, hb1⟩) | (with_reducible refine (D.out _ (HU.out.step (by repeat' (first | exact Below.refl _ _ | assumption | apply bDrewN | apply bDrew | apply bAlloc | (refine bSet ?_ ?_ _) | (refine bStep ?_ (by assumption)) | omega | (simp <;> omega))))).mono ?_; rintro e w2 ⟨rfl, hb2⟩))
      go_ret
      exact ⟨rfl, (by repeat' (first | exact Below.refl _ _ | assumption | apply bDrewN | apply bDrew | apply bAlloc | (refine bSet ?_ ?_ _) | (refine bStep ?_ (by assumption)) | omega | (simp <;> omega)))⟩
    · go_enter Try.func68, Try.ntmps68
      go_wp2_with (go_at_call 60; first | (with_reducible refine (C.out _ (HV.out.step (by repeat' (first | exact Below.refl _ _ | assumption | apply bDrewN | apply bDrew | apply bAlloc | (refine bSet ?_ ?_ _) | (refine bStep ?_ (by assumption)) | omega | (simp <;> omega))))).mono ?_; rintro e w1 ⟨rfl, hb1⟩) | (with_reducible refine (D.out _ (HU.out.step (by repeat' (first | exact Below.refl _ _ | assumption | apply bDrewN | apply bDrew | apply bAlloc | (refine bSet ?_ ?_ _) | (refine bStep ?_ (by assumption)) | omega | (simp <;> omega))))).mono ?_; rintro e w2 ⟨rfl, hb2⟩))
      go_ret
      exact ⟨rfl, (by repeat' (first | exact Below.refl _ _ | assumption | apply bDrewN | apply bDrew | apply bAlloc | (refine bSet ?_ ?_ _) | (refine bStep ?_ (by assumption)) | omega | (simp <;> omega)))⟩
    · go_enter Try.func68, Try.ntmps68
      go_wp2_with (go_at_call 60; first | (with_reducible refine (C.out _ (HV.out.step (by repeat' (first | exact Below.refl _ _ | assumption | apply bDrewN | apply bDrew | apply bAlloc | (refine bSet ?_ ?_ _) | (refine bStep ?_ (by assumption)) | omega | (simp <;> omega))))).mono ?_; rintro e w1 ⟨rfl, hb1⟩) | (with_reducible refine (D.out _ (HU.out.step (by repeat' (first | exact Below.refl _ _ | assumption | apply bDrewN | apply bDrew | apply bAlloc | (refine bSet ?_ ?_ _) | (refine bStep ?_ (by assumption)) | omega | (simp <;> omega))))).mono ?_; rintro e w2 ⟨rfl, hb2⟩))
      go_ret
      exact ⟨rfl, (by repeat' (first | exact Below.refl _ _ | assumption | apply bDrewN | apply bDrew | apply bAlloc | (refine bSet ?_ ?_ _) | (refine bStep ?_ (by assumption)) | omega | (simp <;> omega)))⟩
    · by_cases h3 : l.length = m.length
      · rw [if_neg (fun h => h h3)]
        have h4 : (l.length : Int) = m.length := by omega
        have H3 := Lib.hid h3
        rw [h3] at h1
        clear h4
        rw [h3] at HV C ⊢
        go_enter Try.func68, Try.ntmps68
        go_wp2_with (go_at_call 60; first | (with_reducible refine (C.out _ (HV.out.step (by repeat' (first | exact Below.refl _ _ | assumption | apply bDrewN | apply bDrew | apply bAlloc | (refine bSet ?_ ?_ _) | (refine bStep ?_ (by assumption)) | omega | (simp <;> omega))))).mono ?_; rintro e w1 ⟨rfl, hb1⟩) | (with_reducible refine (D.out _ (HU.out.step (by repeat' (first | exact Below.refl _ _ | assumption | apply bDrewN | apply bDrew | apply bAlloc | (refine bSet ?_ ?_ _) | (refine bStep ?_ (by assumption)) | omega | (simp <;> omega))))).mono ?_; rintro e w2 ⟨rfl, hb2⟩))
        go_ret
        exact ⟨rfl, (by repeat' (first | exact Below.refl _ _ | assumption | apply bDrewN | apply bDrew | apply bAlloc | (refine bSet ?_ ?_ _) | (refine bStep ?_ (by assumption)) | omega | (simp <;> omega)))⟩
      · rw [if_pos h3]
        have h4 : ¬ (l.length : Int) = m.length := by omega
        go_enter Try.func68, Try.ntmps68
        go_wp2_with (go_at_call 60; first | (with_reducible refine (C.out _ (HV.out.step (by repeat' (first | exact Below.refl _ _ | assumption | apply bDrewN | apply bDrew | apply bAlloc | (refine bSet ?_ ?_ _) | (refine bStep ?_ (by assumption)) | omega | (simp <;> omega))))).mono ?_; rintro e w1 ⟨rfl, hb1⟩) | (with_reducible refine (D.out _ (HU.out.step (by repeat' (first | exact Below.refl _ _ | assumption | apply bDrewN | apply bDrew | apply bAlloc | (refine bSet ?_ ?_ _) | (refine bStep ?_ (by assumption)) | omega | (simp <;> omega))))).mono ?_; rintro e w2 ⟨rfl, hb2⟩))
        go_ret
        exact ⟨rfl, (by repeat' (first | exact Below.refl _ _ | assumption | apply bDrewN | apply bDrew | apply bAlloc | (refine bSet ?_ ?_ _) | (refine bStep ?_ (by assumption)) | omega | (simp <;> omega)))⟩
end Go.Proofs.Ytngnehlmbipabaa

/-
  The reference's BoxHas and BoxInside.
-/
set_option linter.unusedSimpArgs false
set_option linter.unusedVariables false
namespace Go.Proofs.Ytngnehlmbipabaa
open Go.RowKit
set_option maxHeartbeats 2000000 in
set_option maxRecDepth 20000 in
theorem RBoxHas_row (v u : Value) (l : List (Int × Int)) (m : List Int) (w : World) (hl : l.length ≤ 1000000) (hm : m.length ≤ 1000000) (hv : SpRow v l w) (hu : IntRow u m w) :
    Calls Try.prog 22 #[v, u] w fun e w' => e = .returned (.bool (boxHasS l m)) ∧ Below w.heap.size w w' := by
  have C := Lib.hid (fun w h => RCheckBox_row v l w (by omega) h)
  have HV := Lib.hid hv
  obtain ⟨a, ca, rfl, hA⟩ := hv
  obtain ⟨b, cb, rfl, hB⟩ := hu
  have hno : ¬ (m.length = l.length ∧ checkB l = 0) → boxHasS l m = false := by
    intro h
    unfold boxHasS
    rw [decide_eq_false_iff_not]
    exact fun q => h ⟨q.1, q.2.1⟩
  by_cases h1 : checkB l = 0
  · by_cases h3 : l.length = m.length
    · have hg1 : Hid ((∀ j, j < l.length → hasS (l.getD j (0, 0)) (m.getD j 0) = true) → boxHasS l m = true) := fun h => by
        unfold boxHasS
        rw [decide_eq_true_eq]
        exact ⟨h3.symm, h1, h⟩
      have hg2 : Hid (∀ j, j < l.length → hasS (l.getD j (0, 0)) (m.getD j 0) = false → boxHasS l m = false) := fun j hj h => by
        unfold boxHasS
        rw [decide_eq_false_iff_not]
        intro q
        have := q.2.2 j hj
        rw [h] at this
        cases this
      generalize boxHasS l m = r at *
      rw [h1] at C
      skip
      have H3 := Lib.hid h3
      rw [← h3]
      skip
      have HA := Lib.hid hA
      have HB := Lib.hid hB
      clear hA hB h1 h3 hno hm
      go_enter Try.func22, Try.ntmps22
      go_wp2_with (go_at_call 20; refine (C.out _ (HV.out.step (by repeat' (first | exact Below.refl _ _ | assumption | apply bDrewN | apply bDrew | apply bAlloc | (refine bSet ?_ ?_ _) | (refine bStep ?_ (by assumption)) | omega | (simp <;> omega))))).mono ?_; rintro e w1 ⟨rfl, hb1⟩)
      have hbw : Below w.heap.size w w1 := (by repeat' (first | exact Below.refl _ _ | assumption | apply bDrewN | apply bDrew | apply bAlloc | (refine bSet ?_ ?_ _) | (refine bStep ?_ (by assumption)) | omega | (simp <;> omega)))
      go_loopw [5] (fun i wr => ∃ k : Nat, k ≤ l.length ∧ i = .int .i64 k ∧ Hid (Below w.heap.size w wr) ∧ Hid (∀ j, j < k → hasS (l.getD j (0, 0)) (m.getD j 0) = true)) (fun i _ => l.length - (intOf i).toNat)
      case atStart => exact ⟨0, by omega, rfl, hbw, fun j hj => by omega⟩
      case round =>
        obtain ⟨k, hk, rfl, HW, HI⟩ := hrel
        by_cases hlt : k < l.length
        · have hlm : k < m.length := by rw [← H3.out]; exact hlt
          obtain ⟨bu, ou, rfl, hc⟩ := (HA.out.step HW.out) (fun h => by rw [h] at hlt; simp at hlt)
          obtain ⟨bv, ov, rfl, p1⟩ := (HB.out.step HW.out).at_ hlm
          obtain ⟨q1, q2⟩ := hc.at_ hlt
          skip
          have hlt2 : (k : Int) < l.length := by omega
          have hEk : hasS (l.getD k (0, 0)) (m.getD k 0) = hasS l[k] m[k] := by rw [getD_at hlt, getD_at hlm]
          have HI2 : Hid (hasS l[k] m[k] = true → ∀ j, j < k + 1 → hasS (l.getD j (0, 0)) (m.getD j 0) = true) := by
            intro h j hj
            rcases Nat.lt_or_ge j k with h' | h'
            · exact HI.out j h'
            · obtain rfl : j = k := by omega
              rw [hEk]; exact h
          have HN2 : Hid (hasS l[k] m[k] = false → r = false) := fun h => hg2.out k hlt (by rw [hEk]; exact h)
          clear hEk HI hg1 hg2 hc
          generalize l[k] = x at *
          generalize m[k] = y at *
          obtain ⟨x1, x2⟩ := x
          skip
          dsimp only at *
          have hS1 : ∀ s : WStep wr, s.1.cell? ⟨bu, ou + k * 2, none⟩ = some (.int .i64 x1) := fun s => cell_step q1 s.2
          have hS2 : ∀ s : WStep wr, s.1.cell? ⟨bu, ou + k * 2 + 1, none⟩ = some (.int .i64 x2) := fun s => cell_step q2 s.2
          have hS3 : ∀ s : WStep wr, s.1.cell? ⟨bv, ov + k, none⟩ = some (.int .i64 y) := fun s => cell_step p1 s.2
          skip
          have CX : ∀ (r0 : Bool), hasS (x1, x2) y = r0 → ∀ s : WStep wr, Calls Try.prog 63 #[.agg #[.int .i64 x1, .int .i64 x2], .int .i64 y] s.1 fun e w' => e = .returned (.bool r0) ∧ ∃ t : WStep wr, w' = t.1 := fun r0 h0 s => by
            have h := RHas_any (x1, x2) y s.1
            rw [h0] at h
            exact step_call s h
          have hb := HW.out
          cases hx : hasS (x1, x2) y
          · have hr := HN2.out hx
            subst hr
            have CZ := Lib.hid (CX _ hx)
            clear HI2 HN2 CX hx
            go_wp2_with fail
            refine wp_region_step (by kernel_rfl) (by kernel_rfl) ?_
            repeat (quiet_step (with_reducible exact CZ.out _))
            refine wpQuiet_nil ?_
            intro _ hw'
            obtain ⟨⟨W2, hW2⟩, hw''⟩ := hw'
            dsimp only at hw''
            subst hw''
            go_wp2_with fail
            go_ret
            exact ⟨rfl, bStep hb hW2⟩
          · have HI3 := Lib.hid (HI2.out hx)
            have CZ := Lib.hid (CX _ hx)
            clear HI2 HN2 CX hx
            go_wp2_with fail
            refine wp_region_step (by kernel_rfl) (by kernel_rfl) ?_
            repeat (quiet_step (with_reducible exact CZ.out _))
            refine wpQuiet_nil ?_
            intro _ hw'
            obtain ⟨⟨W2, hW2⟩, hw''⟩ := hw'
            dsimp only at hw''
            subst hw''
            go_wp2_with fail
            go_roundw
            case rel => exact ⟨k + 1, by omega, by push_cast; rfl, bStep hb hW2, HI3.out⟩
            case measure => (simp [intOf]; omega)
        · have hr := hg1.out (fun j hj => HI.out j (by omega))
          subst hr
          have hle : ¬ (k : Int) < l.length := by omega
          have hb := HW.out
          go_wp2_with fail
          go_ret
          exact ⟨rfl, (by repeat' (first | exact Below.refl _ _ | assumption | apply bDrewN | apply bDrew | apply bAlloc | (refine bSet ?_ ?_ _) | (refine bStep ?_ (by assumption)) | omega | (simp <;> omega)))⟩
    · have hr := hno (fun q => h3 q.1.symm)
      rw [hr]
      rw [h1] at C
      skip
      have h4 : ¬ (l.length : Int) = m.length := by omega
      clear hr hno hA hB hm h1 
      go_enter Try.func22, Try.ntmps22
      go_wp2_with (go_at_call 20; refine (C.out _ (HV.out.step (by repeat' (first | exact Below.refl _ _ | assumption | apply bDrewN | apply bDrew | apply bAlloc | (refine bSet ?_ ?_ _) | (refine bStep ?_ (by assumption)) | omega | (simp <;> omega))))).mono ?_; rintro e w1 ⟨rfl, hb1⟩)
      go_ret
      exact ⟨rfl, (by repeat' (first | exact Below.refl _ _ | assumption | apply bDrewN | apply bDrew | apply bAlloc | (refine bSet ?_ ?_ _) | (refine bStep ?_ (by assumption)) | omega | (simp <;> omega)))⟩
  · have hr := hno (fun q => h1 q.2)
    rw [hr]
    generalize checkB l = z at *
    clear hr hno hA hB
    go_enter Try.func22, Try.ntmps22
    go_wp2_with (go_at_call 20; refine (C.out _ (HV.out.step (by repeat' (first | exact Below.refl _ _ | assumption | apply bDrewN | apply bDrew | apply bAlloc | (refine bSet ?_ ?_ _) | (refine bStep ?_ (by assumption)) | omega | (simp <;> omega))))).mono ?_; rintro e w1 ⟨rfl, hb1⟩)
    go_ret
    exact ⟨rfl, (by repeat' (first | exact Below.refl _ _ | assumption | apply bDrewN | apply bDrew | apply bAlloc | (refine bSet ?_ ?_ _) | (refine bStep ?_ (by assumption)) | omega | (simp <;> omega)))⟩
set_option maxHeartbeats 2000000 in
set_option maxRecDepth 20000 in
theorem RBoxInside_row (v u : Value) (l : List (Int × Int)) (m : List (Int × Int)) (w : World) (hl : l.length ≤ 1000000) (hm : m.length ≤ 1000000) (hv : SpRow v l w) (hu : SpRow u m w) :
    Calls Try.prog 24 #[v, u] w fun e w' => e = .returned (.bool (allS insideS l m)) ∧ Below w.heap.size w w' := by
  have C := Lib.hid (fun w h => RCheckBox_row v l w (by omega) h)
  have D := Lib.hid (fun w h => RCheckBox_row u m w (by omega) h)
  have HU := Lib.hid hu
  have HV := Lib.hid hv
  obtain ⟨a, ca, rfl, hA⟩ := hv
  obtain ⟨b, cb, rfl, hB⟩ := hu
  have hno : ¬ (checkB l = 0 ∧ checkB m = 0 ∧ l.length = m.length) → allS insideS l m = false := by
    intro h
    unfold allS
    rw [decide_eq_false_iff_not]
    exact fun q => h ⟨q.1, q.2.1, q.2.2.1⟩
  by_cases h1 : checkB l = 0
  · by_cases h2 : checkB m = 0
    · by_cases h3 : l.length = m.length
      · have hg1 : Hid ((∀ j, j < l.length → insideS (l.getD j (0, 0)) (m.getD j (0, 0)) = true) → allS insideS l m = true) := fun h => by
          unfold allS
          rw [decide_eq_true_eq]
          exact ⟨h1, h2, h3, h⟩
        have hg2 : Hid (∀ j, j < l.length → insideS (l.getD j (0, 0)) (m.getD j (0, 0)) = false → allS insideS l m = false) := fun j hj h => by
          unfold allS
          rw [decide_eq_false_iff_not]
          intro q
          have := q.2.2.2 j hj
          rw [h] at this
          cases this
        generalize allS insideS l m = r at *
        rw [h1] at C
        rw [h2] at D
        have H3 := Lib.hid h3
        rw [← h3]
        rw [← h3] at HU D
        have HA := Lib.hid hA
        have HB := Lib.hid hB
        clear hA hB h1 h2 h3 hno hm
        go_enter Try.func24, Try.ntmps24
        go_wp2_with (go_at_call 20; first | (with_reducible refine (C.out _ (HV.out.step (by repeat' (first | exact Below.refl _ _ | assumption | apply bDrewN | apply bDrew | apply bAlloc | (refine bSet ?_ ?_ _) | (refine bStep ?_ (by assumption)) | omega | (simp <;> omega))))).mono ?_; rintro e w1 ⟨rfl, hb1⟩) | (with_reducible refine (D.out _ (HU.out.step (by repeat' (first | exact Below.refl _ _ | assumption | apply bDrewN | apply bDrew | apply bAlloc | (refine bSet ?_ ?_ _) | (refine bStep ?_ (by assumption)) | omega | (simp <;> omega))))).mono ?_; rintro e w2 ⟨rfl, hb2⟩))
        have hbw : Below w.heap.size w w2 := (by repeat' (first | exact Below.refl _ _ | assumption | apply bDrewN | apply bDrew | apply bAlloc | (refine bSet ?_ ?_ _) | (refine bStep ?_ (by assumption)) | omega | (simp <;> omega)))
        go_loopw [5] (fun i wr => ∃ k : Nat, k ≤ l.length ∧ i = .int .i64 k ∧ Hid (Below w.heap.size w wr) ∧ Hid (∀ j, j < k → insideS (l.getD j (0, 0)) (m.getD j (0, 0)) = true)) (fun i _ => l.length - (intOf i).toNat)
        case atStart => exact ⟨0, by omega, rfl, hbw, fun j hj => by omega⟩
        case round =>
          obtain ⟨k, hk, rfl, HW, HI⟩ := hrel
          by_cases hlt : k < l.length
          · have hlm : k < m.length := by rw [← H3.out]; exact hlt
            obtain ⟨bu, ou, rfl, hc⟩ := (HA.out.step HW.out) (fun h => by rw [h] at hlt; simp at hlt)
            obtain ⟨bv, ov, rfl, hd⟩ := (HB.out.step HW.out) (fun h => by rw [h] at hlm; simp at hlm)
            obtain ⟨q1, q2⟩ := hc.at_ hlt
            obtain ⟨p1, p2⟩ := hd.at_ hlm
            have hlt2 : (k : Int) < l.length := by omega
            have hEk : insideS (l.getD k (0, 0)) (m.getD k (0, 0)) = insideS l[k] m[k] := by rw [getD_at hlt, getD_at hlm]
            have HI2 : Hid (insideS l[k] m[k] = true → ∀ j, j < k + 1 → insideS (l.getD j (0, 0)) (m.getD j (0, 0)) = true) := by
              intro h j hj
              rcases Nat.lt_or_ge j k with h' | h'
              · exact HI.out j h'
              · obtain rfl : j = k := by omega
                rw [hEk]; exact h
            have HN2 : Hid (insideS l[k] m[k] = false → r = false) := fun h => hg2.out k hlt (by rw [hEk]; exact h)
            clear hEk HI hg1 hg2 hd hc
            generalize l[k] = x at *
            generalize m[k] = y at *
            obtain ⟨x1, x2⟩ := x
            obtain ⟨y1, y2⟩ := y
            dsimp only at *
            have hS1 : ∀ s : WStep wr, s.1.cell? ⟨bu, ou + k * 2, none⟩ = some (.int .i64 x1) := fun s => cell_step q1 s.2
            have hS2 : ∀ s : WStep wr, s.1.cell? ⟨bu, ou + k * 2 + 1, none⟩ = some (.int .i64 x2) := fun s => cell_step q2 s.2
            have hS3 : ∀ s : WStep wr, s.1.cell? ⟨bv, ov + k * 2, none⟩ = some (.int .i64 y1) := fun s => cell_step p1 s.2
            have hS4 : ∀ s : WStep wr, s.1.cell? ⟨bv, ov + k * 2 + 1, none⟩ = some (.int .i64 y2) := fun s => cell_step p2 s.2
            have CX : ∀ (r0 : Bool), insideS (x1, x2) (y1, y2) = r0 → ∀ s : WStep wr, Calls Try.prog 65 #[.agg #[.int .i64 x1, .int .i64 x2], .agg #[.int .i64 y1, .int .i64 y2]] s.1 fun e w' => e = .returned (.bool r0) ∧ ∃ t : WStep wr, w' = t.1 := fun r0 h0 s => by
              have h := RInside_any (x1, x2) (y1, y2) s.1
              rw [h0] at h
              exact step_call s h
            have hb := HW.out
            cases hx : insideS (x1, x2) (y1, y2)
            · have hr := HN2.out hx
              subst hr
              have CZ := Lib.hid (CX _ hx)
              clear HI2 HN2 CX hx
              go_wp2_with fail
              refine wp_region_step (by kernel_rfl) (by kernel_rfl) ?_
              repeat (quiet_step (with_reducible exact CZ.out _))
              refine wpQuiet_nil ?_
              intro _ hw'
              obtain ⟨⟨W2, hW2⟩, hw''⟩ := hw'
              dsimp only at hw''
              subst hw''
              go_wp2_with fail
              go_ret
              exact ⟨rfl, bStep hb hW2⟩
            · have HI3 := Lib.hid (HI2.out hx)
              have CZ := Lib.hid (CX _ hx)
              clear HI2 HN2 CX hx
              go_wp2_with fail
              refine wp_region_step (by kernel_rfl) (by kernel_rfl) ?_
              repeat (quiet_step (with_reducible exact CZ.out _))
              refine wpQuiet_nil ?_
              intro _ hw'
              obtain ⟨⟨W2, hW2⟩, hw''⟩ := hw'
              dsimp only at hw''
              subst hw''
              go_wp2_with fail
              go_roundw
              case rel => exact ⟨k + 1, by omega, by push_cast; rfl, bStep hb hW2, HI3.out⟩
              case measure => (simp [intOf]; omega)
          · have hr := hg1.out (fun j hj => HI.out j (by omega))
            subst hr
            have hle : ¬ (k : Int) < l.length := by omega
            have hb := HW.out
            go_wp2_with fail
            go_ret
            exact ⟨rfl, (by repeat' (first | exact Below.refl _ _ | assumption | apply bDrewN | apply bDrew | apply bAlloc | (refine bSet ?_ ?_ _) | (refine bStep ?_ (by assumption)) | omega | (simp <;> omega)))⟩
      · have hr := hno (fun q => h3 q.2.2)
        rw [hr]
        rw [h1] at C
        rw [h2] at D
        have h4 : ¬ (l.length : Int) = m.length := by omega
        clear hr hno hA hB hm h1 h2
        go_enter Try.func24, Try.ntmps24
        go_wp2_with (go_at_call 20; first | (with_reducible refine (C.out _ (HV.out.step (by repeat' (first | exact Below.refl _ _ | assumption | apply bDrewN | apply bDrew | apply bAlloc | (refine bSet ?_ ?_ _) | (refine bStep ?_ (by assumption)) | omega | (simp <;> omega))))).mono ?_; rintro e w1 ⟨rfl, hb1⟩) | (with_reducible refine (D.out _ (HU.out.step (by repeat' (first | exact Below.refl _ _ | assumption | apply bDrewN | apply bDrew | apply bAlloc | (refine bSet ?_ ?_ _) | (refine bStep ?_ (by assumption)) | omega | (simp <;> omega))))).mono ?_; rintro e w2 ⟨rfl, hb2⟩))
        go_ret
        exact ⟨rfl, (by repeat' (first | exact Below.refl _ _ | assumption | apply bDrewN | apply bDrew | apply bAlloc | (refine bSet ?_ ?_ _) | (refine bStep ?_ (by assumption)) | omega | (simp <;> omega)))⟩
    · have hr := hno (fun q => h2 q.2.1)
      rw [hr]
      rw [h1] at C
      generalize checkB m = z at *
      clear hr hno hA hB h1
      go_enter Try.func24, Try.ntmps24
      go_wp2_with (go_at_call 20; first | (with_reducible refine (C.out _ (HV.out.step (by repeat' (first | exact Below.refl _ _ | assumption | apply bDrewN | apply bDrew | apply bAlloc | (refine bSet ?_ ?_ _) | (refine bStep ?_ (by assumption)) | omega | (simp <;> omega))))).mono ?_; rintro e w1 ⟨rfl, hb1⟩) | (with_reducible refine (D.out _ (HU.out.step (by repeat' (first | exact Below.refl _ _ | assumption | apply bDrewN | apply bDrew | apply bAlloc | (refine bSet ?_ ?_ _) | (refine bStep ?_ (by assumption)) | omega | (simp <;> omega))))).mono ?_; rintro e w2 ⟨rfl, hb2⟩))
      go_ret
      exact ⟨rfl, (by repeat' (first | exact Below.refl _ _ | assumption | apply bDrewN | apply bDrew | apply bAlloc | (refine bSet ?_ ?_ _) | (refine bStep ?_ (by assumption)) | omega | (simp <;> omega)))⟩
  · have hr := hno (fun q => h1 q.1)
    rw [hr]
    generalize checkB l = z at *
    clear hr hno hA hB
    go_enter Try.func24, Try.ntmps24
    go_wp2_with (go_at_call 20; first | (with_reducible refine (C.out _ (HV.out.step (by repeat' (first | exact Below.refl _ _ | assumption | apply bDrewN | apply bDrew | apply bAlloc | (refine bSet ?_ ?_ _) | (refine bStep ?_ (by assumption)) | omega | (simp <;> omega))))).mono ?_; rintro e w1 ⟨rfl, hb1⟩) | (with_reducible refine (D.out _ (HU.out.step (by repeat' (first | exact Below.refl _ _ | assumption | apply bDrewN | apply bDrew | apply bAlloc | (refine bSet ?_ ?_ _) | (refine bStep ?_ (by assumption)) | omega | (simp <;> omega))))).mono ?_; rintro e w2 ⟨rfl, hb2⟩))
    go_ret
    exact ⟨rfl, (by repeat' (first | exact Below.refl _ _ | assumption | apply bDrewN | apply bDrew | apply bAlloc | (refine bSet ?_ ?_ _) | (refine bStep ?_ (by assumption)) | omega | (simp <;> omega)))⟩
end Go.Proofs.Ytngnehlmbipabaa
