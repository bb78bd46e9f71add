/-
  The walk of the reference's CheckCurve, SameCurve.
-/
import Derived.Test.YtkldlmbccdfjdaaCe
set_option linter.unusedSimpArgs false
set_option linter.unusedVariables false
namespace Go.Proofs.Ytkldlmbccdfjdaa
open Go.RowKit

def okAt (xs ys : List Int) (j : Nat) : Prop := isQ (xs.getD j 0) = true ∧ isQ (ys.getD j 0) = true ∧ (0 < j → xs.getD (j - 1) 0 < xs.getD j 0 ∧ ys.getD (j - 1) 0 ≤ ys.getD j 0)
theorem goodC_iff {xs ys : List Int} (h1 : xs.length = ys.length) (h2 : 2 ≤ xs.length) : goodC xs ys ↔ ∀ j, j < xs.length → okAt xs ys j := by
  have hall : ∀ zs : List Int, (zs.all isQ = true ↔ ∀ j, j < zs.length → isQ (zs.getD j 0) = true) := by
    intro zs
    rw [List.all_eq_true]
    constructor
    · intro h j hj
      rw [List.getD_eq_getElem?_getD, List.getElem?_eq_getElem hj]
      exact h _ (List.getElem_mem hj)
    · intro h z hz
      obtain ⟨j, hj, rfl⟩ := List.getElem_of_mem hz
      have := h j hj
      rwa [List.getD_eq_getElem?_getD, List.getElem?_eq_getElem hj] at this
  unfold goodC preC rising okAt
  rw [hall, hall]
  constructor
  · rintro ⟨⟨_, _, p3, p4⟩, p5⟩ j hj
    refine ⟨p3 j hj, p4 j (by omega), fun h0 => ?_⟩
    have := p5 (j - 1) (by omega)
    rw [show j - 1 + 1 = j by omega] at this
    exact this
  · intro h
    refine ⟨⟨h1, h2, fun j hj => (h j hj).1, fun j hj => (h j (by omega)).2.1⟩, fun k hk => ?_⟩
    have := (h (k + 1) (by omega)).2.2 (by omega)
    rw [show k + 1 - 1 = k by omega] at this
    exact this

set_option maxHeartbeats 4000000 in
set_option maxRecDepth 20000 in
theorem RCheckCurve_any (a b : Option Addr) (ca cb : Nat) (xs ys : List Int) (w : World) (hx : xs.length ≤ 1000000) (hy : ys.length ≤ 1000000) (hA : IntAt a xs w) (hB : IntAt b ys w) :
    Calls Try.prog 41 #[.agg #[.slice a xs.length ca, .slice b ys.length cb]] w fun e w' => e = .returned (.int .i64 (checkC xs ys)) ∧ Below w.heap.size w w' := by
  by_cases h1 : 64 < xs.length ∨ 64 < ys.length
  · have hr : checkC xs ys = 6 := by unfold checkC; rw [if_pos (by omega)]
    rw [hr]
    have h64 : 64 < (xs.length : Int) ∨ ((xs.length : Int) ≤ 64 ∧ 64 < (ys.length : Int)) := by omega
    clear hr h1 hA hB hx hy
    rcases h64 with h | ⟨h, h'⟩
    all_goals
      go_enter Try.func41, Try.ntmps41
      go_wp2_with fail
      go_ret
      exact ⟨rfl, (by repeat' (first | exact Below.refl _ _ | assumption | apply bDrewN | apply bDrew | apply bAlloc | (refine bSet ?_ ?_ _) | (refine bStep ?_ (by assumption)) | omega | (simp <;> omega)))⟩
  by_cases h2 : xs.length = ys.length ∧ 2 ≤ xs.length
  · obtain ⟨h2, h3⟩ := h2
    have hg := goodC_iff h2 h3
    have hr1 : Hid ((∀ j, j < xs.length → okAt xs ys j) → checkC xs ys = 0) := fun h => by unfold checkC; rw [if_neg (by omega), if_pos (hg.2 h)]
    have hr2 : Hid (∀ j, j < xs.length → ¬ okAt xs ys j → checkC xs ys = 2) := fun j hj h => by unfold checkC; rw [if_neg (by omega), if_neg (fun c => h (hg.1 c j hj))]
    generalize checkC xs ys = r at *
    have HA := Lib.hid hA
    have HB := Lib.hid hB
    have H2 := Lib.hid h2
    have h3' : 2 ≤ (xs.length : Int) := by omega
    have h4' : (xs.length : Int) ≤ 64 := by omega
    rw [← h2]
    clear h1 h2 hg hA hB hy
    go_enter Try.func41, Try.ntmps41
    go_wp2_with fail
    go_loopw [3] (fun i wr => ∃ (k n : Nat), k ≤ xs.length ∧ i = .int .i64 k ∧ wr = (w.alloc (.cells #[.slice a xs.length ca, .slice b xs.length cb] 24)).drewN n ∧ Hid (∀ j, j < k → okAt xs ys j)) (fun i _ => xs.length - (intOf i).toNat)
    case atStart => exact ⟨0, 0, by omega, rfl, rfl, fun j hj => by omega⟩
    case round =>
      obtain ⟨k, n, hk, rfl, rfl, HI⟩ := hrel
      by_cases hlt : k < xs.length
      · have hlt2 : k < ys.length := by rw [← H2.out]; exact hlt
        obtain ⟨bu, ou, rfl, -⟩ := HA.out.at_ hlt
        obtain ⟨bv, ov, rfl, -⟩ := HB.out.at_ hlt2
        have hne : xs ≠ [] := fun e => by rw [e] at hlt; simp at hlt
        have hne2 : ys ≠ [] := fun e => by rw [e] at hlt2; simp at hlt2
        obtain ⟨_, _, e1, hbu, hcx⟩ := HA.out hne
        cases e1
        obtain ⟨_, _, e2, hbv, hcy⟩ := HB.out hne2
        cases e2
        have c1 := hcx k hlt
        have c2 := hcy k hlt2
        have c3 := hcx (k - 1) (by omega)
        have c4 := hcy (k - 1) (by omega)
        have hok : Hid (okAt xs ys k → ∀ j, j < k + 1 → okAt xs ys j) := fun h j hj => by
          rcases Nat.lt_or_ge j k with h' | h'
          · exact HI.out j h'
          · obtain rfl : j = k := by omega
            exact h
        have hno : Hid (¬ okAt xs ys k → r = 2) := hr2.out k hlt
        clear hcx hcy HI hr1 hr2 H2 hne hne2
        unfold okAt at hok hno
        generalize xs.getD k 0 = x at *
        generalize ys.getD k 0 = y at *
        generalize xs.getD (k - 1) 0 = x' at *
        generalize ys.getD (k - 1) 0 = y' at *
        have HC : Hid ((isQ x = false) ∨ (isQ x = true ∧ isQ y = false) ∨ (isQ x = true ∧ isQ y = true ∧ k = 0) ∨ (isQ x = true ∧ isQ y = true ∧ 0 < k ∧ x ≤ x') ∨ (isQ x = true ∧ isQ y = true ∧ 0 < k ∧ x' < x ∧ y < y') ∨ (isQ x = true ∧ isQ y = true ∧ 0 < k ∧ x' < x ∧ y' ≤ y)) := by
          unfold Hid
          cases isQ x <;> cases isQ y <;> simp <;> omega
        rcases HC.out with q1 | ⟨q1, q2⟩ | ⟨q1, q2, q3⟩ | ⟨q1, q2, q3, q4⟩ | ⟨q1, q2, q3, q4, q5⟩ | ⟨q1, q2, q3, q4, q5⟩
        · obtain rfl := hno.out (fun h => by rw [q1] at h; exact absurd h.1 (by decide))
          clear hok hno HC HA HB
          go_wp2_with fail
          go_quiet ((go_at_call 42; first | exact quiet_add_left (Is_any _ _) | exact quiet_left (Is_any _ _)))
          go_wp2_with fail
          go_ret
          exact ⟨rfl, (by repeat' (first | exact Below.refl _ _ | assumption | apply bDrewN | apply bDrew | apply bAlloc | (refine bSet ?_ ?_ _) | (refine bStep ?_ (by assumption)) | omega | (simp <;> omega)))⟩
        · obtain rfl := hno.out (fun h => by rw [q2] at h; exact absurd h.2.1 (by decide))
          clear hok hno HC HA HB
          go_wp2_with fail
          go_quiet ((go_at_call 42; first | exact quiet_add_left (Is_any _ _) | exact quiet_left (Is_any _ _)))
          go_wp2_with fail
          go_ret
          exact ⟨rfl, (by repeat' (first | exact Below.refl _ _ | assumption | apply bDrewN | apply bDrew | apply bAlloc | (refine bSet ?_ ?_ _) | (refine bStep ?_ (by assumption)) | omega | (simp <;> omega)))⟩
        · subst q3
          rw [Nat.add_zero] at c1 c2
          have hN := Lib.hid (hok.out ⟨q1, q2, fun h => absurd h (by omega)⟩)
          clear hok hno HC
          go_wp2_with fail
          go_quiet ((go_at_call 42; first | exact quiet_add_left (Is_any _ _) | exact quiet_left (Is_any _ _)))
          go_wp2_with fail
          go_roundw
          case rel => exact ⟨1, _, by omega, by go_num, by first | exact Go.World.drewN_drewN .. | (simp; rfl) | rfl, hN.out⟩
          case measure => (simp [intOf]; omega)
        all_goals
          obtain ⟨j, hj⟩ : ∃ j, k - 1 = j := ⟨_, rfl⟩
          have hk1 : (k : Int) - 1 = (j : Int) := by omega
          rw [hj] at c3 c4
          have hk2 : j < xs.length := by omega
          have hk4 : j < ys.length := by omega
          have hw : IntKind.i64.wrap (j : Int) = j := Go.IntWalk.i64_in _ ⟨by omega, by omega⟩
          clear hj
          have hk3 : 0 < (k : Int) := by omega
        · obtain rfl := hno.out (fun h => by have := (h.2.2 q3).1; omega)
          clear hok hno HC HA HB
          go_wp2_with fail
          go_quiet ((go_at_call 42; first | exact quiet_add_left (Is_any _ _) | exact quiet_left (Is_any _ _)))
          go_wp2_with fail
          go_ret
          exact ⟨rfl, (by repeat' (first | exact Below.refl _ _ | assumption | apply bDrewN | apply bDrew | apply bAlloc | (refine bSet ?_ ?_ _) | (refine bStep ?_ (by assumption)) | omega | (simp <;> omega)))⟩
        · obtain rfl := hno.out (fun h => by have := (h.2.2 q3).2; omega)
          clear hok hno HC HA HB
          go_wp2_with fail
          go_quiet ((go_at_call 42; first | exact quiet_add_left (Is_any _ _) | exact quiet_left (Is_any _ _)))
          go_wp2_with fail
          go_ret
          exact ⟨rfl, (by repeat' (first | exact Below.refl _ _ | assumption | apply bDrewN | apply bDrew | apply bAlloc | (refine bSet ?_ ?_ _) | (refine bStep ?_ (by assumption)) | omega | (simp <;> omega)))⟩
        · have hN := Lib.hid (hok.out ⟨q1, q2, fun _ => ⟨q4, q5⟩⟩)
          clear hok hno HC
          go_wp2_with fail
          go_quiet ((go_at_call 42; first | exact quiet_add_left (Is_any _ _) | exact quiet_left (Is_any _ _)))
          go_wp2_with fail
          clear hk1 hw
          go_roundw
          case rel => exact ⟨k + 1, _, by omega, by go_num, by first | exact Go.World.drewN_drewN .. | (simp; rfl) | rfl, hN.out⟩
          case measure => (simp [intOf]; omega)
      · obtain rfl := hr1.out (fun j hj => HI.out j (by omega))
        clear HA HB HI hr2
        go_wp2_with fail
        go_ret
        exact ⟨rfl, (by repeat' (first | exact Below.refl _ _ | assumption | apply bDrewN | apply bDrew | apply bAlloc | (refine bSet ?_ ?_ _) | (refine bStep ?_ (by assumption)) | omega | (simp <;> omega)))⟩
  · have hr : checkC xs ys = 2 := by unfold checkC; rw [if_neg (by omega), if_neg (fun h => h2 ⟨h.1.1, h.1.2.1⟩)]
    rw [hr]
    have h64 : (xs.length : Int) ≤ 64 := by omega
    have h65 : (ys.length : Int) ≤ 64 := by omega
    have hc : (xs.length : Int) ≠ (ys.length : Int) ∨ ((xs.length : Int) = (ys.length : Int) ∧ (xs.length : Int) < 2) := by omega
    clear hr h1 h2 hA hB hx hy
    rcases hc with hc | ⟨hc, hc2⟩
    · go_enter Try.func41, Try.ntmps41
      go_wp2_with fail
      go_ret
      exact ⟨rfl, (by repeat' (first | exact Below.refl _ _ | assumption | apply bDrewN | apply bDrew | apply bAlloc | (refine bSet ?_ ?_ _) | (refine bStep ?_ (by assumption)) | omega | (simp <;> omega)))⟩
    · have hc' : xs.length = ys.length := by omega
      rw [← hc']
      clear hc hc'
      go_enter Try.func41, Try.ntmps41
      go_wp2_with fail
      go_ret
      exact ⟨rfl, (by repeat' (first | exact Below.refl _ _ | assumption | apply bDrewN | apply bDrew | apply bAlloc | (refine bSet ?_ ?_ _) | (refine bStep ?_ (by assumption)) | omega | (simp <;> omega)))⟩

end Go.Proofs.Ytkldlmbccdfjdaa
