/-
  The walks of Round, here and in the reference.
-/
import Derived.Test.YtjnllfebeeiilaaWc
set_option linter.unusedSimpArgs false
set_option linter.unusedVariables false
namespace Go.Proofs.Ytjnllfebeeiilaa
open Go.RowKit

theorem rnd_up (q r d : Int) (hr : 0 ≤ r) (hrd : r < d) : q + 2 * r / d = q + (if d ≤ 2 * r then 1 else 0) := by
  split
  · have : 2 * r / d = 1 := by
      rw [Int.ediv_eq_iff_of_pos (by omega)]; omega
    omega
  · rw [Int.ediv_eq_zero_of_lt (by omega) (by omega)]
theorem rnd_down (r d : Int) (hr : 0 ≤ r) (hrd : r < d) : (2 * r + d - 1) / d - 1 + (if (r == 0) = true then 1 else 0) = (if d < 2 * r then 1 else 0) := by
  by_cases h0 : r = 0
  · subst h0
    have h1 : (2 * 0 + d - 1) / d = 0 := Int.ediv_eq_zero_of_lt (by omega) (by omega)
    have h2 : ¬ d < 2 * 0 := by omega
    rw [h1, if_neg h2]; rfl
  have hb : (r == 0) = false := by simpa using h0
  rw [hb]
  by_cases h2 : d < 2 * r
  · have h1 : (2 * r + d - 1) / d = 2 := by
      rw [Int.ediv_eq_iff_of_pos (by omega)]; omega
    rw [h1, if_pos h2]; rfl
  · have h1 : (2 * r + d - 1) / d = 1 := by
      rw [Int.ediv_eq_iff_of_pos (by omega)]; omega
    rw [h1, if_neg h2]; rfl

set_option maxHeartbeats 400000 in
theorem Round_any (x n d : Int) (w : World) : Calls Try.prog 28 #[.int .i64 x, .int .i64 n, .int .i64 d] w fun e w' => e = .returned (.tuple #[.int .i64 (numS x n d (rnd x n d)).1, .int .i64 (numS x n d (rnd x n d)).2]) ∧ ∃ k, w.drewN k = w' := by
  cases h1 : isQ x
  · rw [numS_n1 h1]
    go_enter Try.func28, Try.ntmps28
    go_wp2_with (first | (go_at_call 78; refine (is_any _ _).mono ?_; rintro e w' ⟨rfl, rfl⟩) | (go_at_call 76; refine (below_any _ _).mono ?_; rintro e w' ⟨rfl, rfl⟩))
    go_ret2
    exact ⟨rfl, 0, rfl⟩
  cases h2 : isQ n
  · rw [numS_n2 h2]
    go_enter Try.func28, Try.ntmps28
    go_wp2_with (first | (go_at_call 78; refine (is_any _ _).mono ?_; rintro e w' ⟨rfl, rfl⟩) | (go_at_call 76; refine (below_any _ _).mono ?_; rintro e w' ⟨rfl, rfl⟩))
    go_ret2
    exact ⟨rfl, 0, rfl⟩
  cases h3 : isDen d
  · rw [numS_n3 h3]
    go_enter Try.func28, Try.ntmps28
    go_wp2_with (first | (go_at_call 78; refine (is_any _ _).mono ?_; rintro e w' ⟨rfl, rfl⟩) | (go_at_call 76; refine (below_any _ _).mono ?_; rintro e w' ⟨rfl, rfl⟩))
    go_ret2
    exact ⟨rfl, 0, rfl⟩
  rw [numS_yes h1 h2 h3]
  obtain ⟨q1, q2⟩ := (isQ_iff _).1 h1
  obtain ⟨q3, q4⟩ := (isQ_iff _).1 h2
  obtain ⟨q5, q6⟩ := (isDen_iff _).1 h3
  have mx := sg_mul x
  have mn := sg_mul n
  have bx := sg_bd x
  have bn := sg_bd n
  have b1 := dvq_bd x.natAbs n.natAbs d (by omega) (by omega) (by omega)
  have b2 := dvr_bd x.natAbs n.natAbs d (by omega)
  have H := Lib.hid (fun w => divide_any (x.natAbs : Int) (n.natAbs : Int) d w (by omega) (by omega) (by omega) (by omega) (by omega) (by omega))
  have hu : rnd x n d = if 0 ≤ sg x * sg n then Pl.dvq x.natAbs n.natAbs d + (if d ≤ 2 * Pl.dvr x.natAbs n.natAbs d then 1 else 0) else -(Pl.dvq x.natAbs n.natAbs d + (if d < 2 * Pl.dvr x.natAbs n.natAbs d then 1 else 0)) := rfl
  rw [hu]; clear hu
  generalize Pl.dvq x.natAbs n.natAbs d = q at *
  generalize Pl.dvr x.natAbs n.natAbs d = r at *
  obtain ⟨c1, c2⟩ := b1
  obtain ⟨c3, c4⟩ := b2
  have ax : (x.natAbs : Int) ≤ 1099511627776 := by omega
  have an : (n.natAbs : Int) ≤ 1099511627776 := by omega
  generalize x.natAbs = X at *
  generalize n.natAbs = N at *
  have bs1 := mul_one_bd bx bn
  generalize hs1 : sg x * sg n = s1 at *
  obtain ⟨c5, c6⟩ := bs1
  rw [← rnd_up q r d c3 c4, ← rnd_down r d c3 c4]
  have d1 : 0 ≤ 2 * r / d := Int.ediv_nonneg (by omega) (by omega)
  have d2 : 2 * r / d ≤ 2 := Int.le_of_lt_add_one (Int.ediv_lt_of_lt_mul (by omega) (by omega))
  have d3 : 0 ≤ (2 * r + d - 1) / d := Int.ediv_nonneg (by omega) (by omega)
  have d4 : (2 * r + d - 1) / d ≤ 3 := Int.le_of_lt_add_one (Int.ediv_lt_of_lt_mul (by omega) (by omega))
  by_cases hs : 0 ≤ s1
  · rw [if_pos hs]
    generalize hv : fitS (q + 2 * r / d) = v
    have Hv := Lib.hid hv
    clear hv
    go_enter Try.func28, Try.ntmps28
    go_wp2_with (first | (go_at_call 78; refine (is_any _ _).mono ?_; rintro e w' ⟨rfl, rfl⟩) | (go_at_call 76; refine (below_any _ _).mono ?_; rintro e w' ⟨rfl, rfl⟩) | (go_at_call 88; refine (sign_any _ _).mono ?_; rintro e w' ⟨rfl, rfl⟩) | (go_at_call 87; refine (H.out _).mono ?_; rintro e w' ⟨rfl, k, rfl⟩) | (go_at_call 79; refine (fit_any _ _).mono ?_; rintro e w' ⟨rfl, rfl⟩))
    go_ret2
    exact ⟨by simp [Hv.out], _, rfl⟩
  · rw [if_neg hs]
    cases hr : (r == 0)
    all_goals
      simp only [reduceIte, Bool.false_eq_true]
      go_enter Try.func28, Try.ntmps28
      go_wp2_with (first | (go_at_call 78; refine (is_any _ _).mono ?_; rintro e w' ⟨rfl, rfl⟩) | (go_at_call 76; refine (below_any _ _).mono ?_; rintro e w' ⟨rfl, rfl⟩) | (go_at_call 88; refine (sign_any _ _).mono ?_; rintro e w' ⟨rfl, rfl⟩) | (go_at_call 87; refine (H.out _).mono ?_; rintro e w' ⟨rfl, k, rfl⟩) | (go_at_call 89; refine (b2i_any _ _).mono ?_; rintro e w' ⟨rfl, rfl⟩) | (go_at_call 79; refine (fit_any _ _).mono ?_; rintro e w' ⟨rfl, rfl⟩))
      go_quiet ((first | (go_at_call 88; exact quiet_add_left (sign_any _ _)) | (go_at_call 89; exact quiet_add_left (b2i_any _ _)) | (go_at_call 79; exact quiet_add_left (fit_any _ _))))
      go_wp2
      go_ret2
      refine ⟨?_, k + nq, by first | rfl | simp⟩
      have e1 : q + (2 * r + d - 1) / d - 1 = q + ((2 * r + d - 1) / d - 1) := by omega
      simp [e1]

/-- The reference's rounding, by its own tests. -/
def rndR (x n d : Int) : Int :=
  if (decide (x < 0) == decide (n < 0)) || (x == 0) || (n == 0) then Pl.dvq x.natAbs n.natAbs d + (if d ≤ 2 * Pl.dvr x.natAbs n.natAbs d then 1 else 0)
  else -(Pl.dvq x.natAbs n.natAbs d + (if d < 2 * Pl.dvr x.natAbs n.natAbs d then 1 else 0))
theorem rndR_eq (x n d : Int) : rndR x n d = rnd x n d := by
  have h : ((decide (x < 0) == decide (n < 0)) || (x == 0) || (n == 0)) = true ↔ 0 ≤ sg x * sg n := by
    unfold sg
    by_cases h1 : x < 0 <;> by_cases h2 : n < 0 <;> by_cases h4 : 0 < x <;> by_cases h5 : 0 < n <;> simp [h1, h2, h4, h5] <;> omega
  unfold rndR rnd
  by_cases hb : ((decide (x < 0) == decide (n < 0)) || (x == 0) || (n == 0)) = true
  · rw [if_pos hb, if_pos (h.1 hb)]
  · rw [if_neg hb, if_neg (fun c => hb (h.2 c))]

set_option maxHeartbeats 800000 in
theorem RRound_any (x n d : Int) (w : World) : Calls Try.prog 29 #[.int .i64 x, .int .i64 n, .int .i64 d] w fun e w' => e = .returned (.tuple #[.int .i64 (numS x n d (rnd x n d)).1, .int .i64 (numS x n d (rnd x n d)).2]) ∧ ∃ k, w.drewN k = w' := by
  cases h1 : isQ x
  · rw [numS_n1 h1]
    go_enter Try.func29, Try.ntmps29
    go_wp2_with (first | (go_at_call 81; refine (Is_any _ _).mono ?_; rintro e w' ⟨rfl, rfl⟩) | (go_at_call 82; refine (den_any _ _).mono ?_; rintro e w' ⟨rfl, rfl⟩))
    go_ret2
    exact ⟨rfl, 0, rfl⟩
  cases h2 : isQ n
  · rw [numS_n2 h2]
    go_enter Try.func29, Try.ntmps29
    go_wp2_with (first | (go_at_call 81; refine (Is_any _ _).mono ?_; rintro e w' ⟨rfl, rfl⟩) | (go_at_call 82; refine (den_any _ _).mono ?_; rintro e w' ⟨rfl, rfl⟩))
    go_ret2
    exact ⟨rfl, 0, rfl⟩
  cases h3 : isDen d
  · rw [numS_n3 h3]
    go_enter Try.func29, Try.ntmps29
    go_wp2_with (first | (go_at_call 81; refine (Is_any _ _).mono ?_; rintro e w' ⟨rfl, rfl⟩) | (go_at_call 82; refine (den_any _ _).mono ?_; rintro e w' ⟨rfl, rfl⟩))
    go_ret2
    exact ⟨rfl, 0, rfl⟩
  rw [numS_yes h1 h2 h3]
  obtain ⟨q1, q2⟩ := (isQ_iff _).1 h1
  obtain ⟨q3, q4⟩ := (isQ_iff _).1 h2
  obtain ⟨q5, q6⟩ := (isDen_iff _).1 h3
  have b1 := dvq_bd x.natAbs n.natAbs d (by omega) (by omega) (by omega)
  have b2 := dvr_bd x.natAbs n.natAbs d (by omega)
  have H := Lib.hid (fun w => whole_any (x.natAbs : Int) (n.natAbs : Int) d w (by omega) (by omega) (by omega) (by omega) (by omega) (by omega))
  rw [← rndR_eq]
  have hu : rndR x n d = if (decide (x < 0) == decide (n < 0)) || (x == 0) || (n == 0) then Pl.dvq x.natAbs n.natAbs d + (if d ≤ 2 * Pl.dvr x.natAbs n.natAbs d then 1 else 0) else -(Pl.dvq x.natAbs n.natAbs d + (if d < 2 * Pl.dvr x.natAbs n.natAbs d then 1 else 0)) := rfl
  rw [hu]; clear hu
  generalize Pl.dvq x.natAbs n.natAbs d = q at *
  generalize Pl.dvr x.natAbs n.natAbs d = r at *
  obtain ⟨c1, c2⟩ := b1
  obtain ⟨c3, c4⟩ := b2
  have a1 : -9223372036854775807 ≤ x := by omega
  have a2 : -9223372036854775807 ≤ n := by omega
  cases g1 : decide (x < 0) <;> cases g2 : decide (n < 0) <;> cases g3 : (x == 0) <;> cases g4 : (n == 0)
  all_goals
    simp only [beq_self_eq_true, Bool.true_or, Bool.or_true, Bool.or_false, reduceIte, Bool.false_eq_true, Bool.not_true, Bool.not_false]
    go_enter Try.func29, Try.ntmps29
    go_wp2_with (first | (go_at_call 81; refine (Is_any _ _).mono ?_; rintro e w' ⟨rfl, rfl⟩) | (go_at_call 82; refine (den_any _ _).mono ?_; rintro e w' ⟨rfl, rfl⟩) | (go_at_call 91; refine (abs_any _ _ (by assumption)).mono ?_; rintro e w' ⟨rfl, rfl⟩) | (go_at_call 90; refine (H.out _).mono ?_; rintro e w' ⟨rfl, k, rfl⟩) | (go_at_call 83; refine (number_any _ _).mono ?_; rintro e w' ⟨rfl, rfl⟩))
    all_goals
      go_ret2
      exact ⟨by simp [*], _, rfl⟩

end Go.Proofs.Ytjnllfebeeiilaa
