/-
  The walk of CheckCurve, at every curve; slices.Clone and slices.Equal over numbers.
-/
import Derived.Test.YtkldlmbccdfjdaaCk
import Derived.Test.YtkldlmbccdfjdaaHalve
set_option linter.unusedSimpArgs false
set_option linter.unusedVariables false
namespace Go.Proofs.Ytkldlmbccdfjdaa
open Go.RowKit

set_option maxHeartbeats 2000000 in
set_option maxRecDepth 20000 in
theorem CheckCurve_any (a b : Option Addr) (ca cb : Nat) (xs ys : List Int) (w : World) (hx : xs.length ≤ 1000000) (hy : ys.length ≤ 1000000) (hA : IntAt a xs w) (hB : IntAt b ys w) :
    Calls Try.prog 12 #[.agg #[.slice a xs.length ca, .slice b ys.length cb]] w fun e w' => e = .returned (.int .i64 (checkC xs ys)) ∧ Below w.heap.size w w' := by
  by_cases h64 : 64 < max xs.length ys.length
  · have hr : checkC xs ys = 6 := by unfold checkC; rw [if_pos h64]
    rw [hr]
    have e1 : (if xs.length < ys.length then (ys.length : Int) else (xs.length : Int)) = max (xs.length : Int) (ys.length : Int) := by split <;> omega
    have h64' : 64 < max (xs.length : Int) (ys.length : Int) := by omega
    generalize max (xs.length : Int) (ys.length : Int) = M at *
    clear hr h64 hA hB hx hy
    go_enter Try.func12, Try.ntmps12
    go_wp2_with fail
    exact bodyPost_ret (v := .int .i64 6) (by simp only [results, Try.results12]; go_simp) rfl ⟨rfl, (by repeat' (first | exact Below.refl _ _ | assumption | apply bDrewN | apply bDrew | apply bAlloc | (refine bSet ?_ ?_ _) | (refine bStep ?_ (by assumption)) | omega | (simp <;> omega)))⟩
  by_cases hp : preC xs ys
  · have hne : xs ≠ [] := fun e => by have := hp.2.1; rw [e] at this; simp at this
    have hne2 : ys ≠ [] := fun e => by have := hp.2.1; rw [hp.1, e] at this; simp at this
    obtain ⟨bu, ou, rfl, _⟩ := id (hA hne)
    obtain ⟨bv, ov, rfl, _⟩ := id (hB hne2)
    have := callsIn_wide.1 (CheckCurve_pre bu ou ca bv ov cb xs ys w (by omega) hp hA hB)
    rw [hp.1] at this ⊢
    exact this
  · have hr : checkC xs ys = 2 := by unfold checkC; rw [if_neg h64, if_neg (fun h => hp h.1)]
    rw [hr]
    have e1 : (if xs.length < ys.length then (ys.length : Int) else (xs.length : Int)) = max (xs.length : Int) (ys.length : Int) := by split <;> omega
    have h64' : max (xs.length : Int) (ys.length : Int) ≤ 64 := by omega
    have C1 := Lib.hid (fun w h => containsFunc_ints xs a ca w hx h)
    have C2 := Lib.hid (fun w h => containsFunc_ints ys b cb w hy h)
    have HA := Lib.hid hA
    have HB := Lib.hid hB
    have hc : xs.length ≠ ys.length ∨ (xs.length = ys.length ∧ (xs.length < 2 ∨ (2 ≤ xs.length ∧ (xs.all isQ = false ∨ (xs.all isQ = true ∧ ys.all isQ = false))))) := by
      unfold preC at hp
      cases h1 : xs.all isQ <;> cases h2 : ys.all isQ <;> simp only [h1, h2] at hp <;> simp <;> simp at hp <;> omega
    generalize max (xs.length : Int) (ys.length : Int) = M at *
    clear hr h64 hA hB hx hy hp
    rcases hc with hc | ⟨hc, hc2 | ⟨hc2, hc3 | ⟨hc3, hc4⟩⟩⟩
    · have hc' : (xs.length : Int) ≠ (ys.length : Int) := by omega
      go_enter Try.func12, Try.ntmps12
      go_wp2_with fail
      exact bodyPost_ret (v := .int .i64 2) (by simp only [results, Try.results12]; go_simp) rfl ⟨rfl, (by repeat' (first | exact Below.refl _ _ | assumption | apply bDrewN | apply bDrew | apply bAlloc | (refine bSet ?_ ?_ _) | (refine bStep ?_ (by assumption)) | omega | (simp <;> omega)))⟩
    all_goals
      rw [← hc] at C2 e1 ⊢
      try rw [hc3] at C1
      try rw [hc4] at C2
      first | have hc2' : (xs.length : Int) < 2 := by omega | have hc2' : 2 ≤ (xs.length : Int) := by omega
      clear hc hc2
      skip
      go_enter Try.func12, Try.ntmps12
      go_wp2_with (go_at_call 51; first | (with_reducible refine (C1.out _ (HA.out.step (by repeat' (first | exact Below.refl _ _ | assumption | apply bDrewN | apply bDrew | apply bAlloc | (refine bSet ?_ ?_ _) | (refine bStep ?_ (by assumption)) | omega | (simp <;> omega))))).mono ?_; rintro e w' ⟨rfl, rfl⟩) | (with_reducible refine (C2.out _ (HB.out.step (by repeat' (first | exact Below.refl _ _ | assumption | apply bDrewN | apply bDrew | apply bAlloc | (refine bSet ?_ ?_ _) | (refine bStep ?_ (by assumption)) | omega | (simp <;> omega))))).mono ?_; rintro e w' ⟨rfl, rfl⟩))
      all_goals first | exact bodyPost_ret (v := .int .i64 2) (by simp only [results, Try.results12]; go_simp) rfl ⟨rfl, (by repeat' (first | exact Below.refl _ _ | assumption | apply bDrewN | apply bDrew | apply bAlloc | (refine bSet ?_ ?_ _) | (refine bStep ?_ (by assumption)) | omega | (simp <;> omega)))⟩ | skip

end Go.Proofs.Ytkldlmbccdfjdaa
