/-
  The walks of the functions of numbers of layer 1, and of their kin in the reference: below, fit, up, b2i, Floor, Ceil, Round; Is, den, abs, Down, Up, number, Floor, Ceil, Round.
-/
import Derived.Test.YtkldlmbccdfjdaaWb
set_option linter.unusedSimpArgs false
set_option linter.unusedVariables false
namespace Go.Proofs.Ytkldlmbccdfjdaa
open Go.RowKit

def isDen (x : Int) : Bool := decide (1 ≤ x) && decide (x ≤ 1099511627776)
theorem isDen_iff (x : Int) : isDen x = true ↔ 1 ≤ x ∧ x ≤ 1099511627776 := by simp [isDen]
theorem isDen_false (x : Int) : isDen x = false ↔ (x < 1 ∨ 1099511627776 < x) := by
  rw [← Bool.not_eq_true, isDen_iff]; omega

/-- A result, or ErrOver. -/
def fitS (v : Int) : Int × Int := if isQ v = true then (v, 0) else (0, 4)
theorem fitS_yes {v : Int} (h : isQ v = true) : fitS v = (v, 0) := by simp [fitS, h]
theorem fitS_no {v : Int} (h : isQ v = false) : fitS v = (0, 4) := by simp [fitS, h]
/-- What the three functions do with a result. -/
def numS (x n d v : Int) : Int × Int := if isQ x = true ∧ isQ n = true ∧ isDen d = true then fitS v else (0, 2)
/-- x n / d + 1/2, rounded down. -/
def rnd (x n d : Int) : Int :=
  if 0 ≤ sg x * sg n then Pl.dvq x.natAbs n.natAbs d + (if d ≤ 2 * Pl.dvr x.natAbs n.natAbs d then 1 else 0)
  else -(Pl.dvq x.natAbs n.natAbs d + (if d < 2 * Pl.dvr x.natAbs n.natAbs d then 1 else 0))

theorem below_any (x : Int) (w : World) : Calls Try.prog 45 #[.int .i64 x] w fun e w' => e = .returned (.bool (isDen x)) ∧ w = w' := by
  have hq : isDen x = (decide (1 ≤ x) && decide (x ≤ 1099511627776)) := rfl
  rw [hq]; clear hq
  go_enter Try.func45, Try.ntmps45
  go_wp2
  all_goals
    go_ret
    exact ⟨by simp [*] <;> omega, rfl⟩
theorem Is_any (x : Int) (w : World) : Calls Try.prog 42 #[.int .i64 x] w fun e w' => e = .returned (.bool (isQ x)) ∧ w = w' := by
  have hq : isQ x = (decide (-1099511627776 ≤ x) && decide (x ≤ 1099511627776)) := rfl
  rw [hq]; clear hq
  go_enter Try.func42, Try.ntmps42
  go_wp2
  all_goals
    go_ret
    exact ⟨by simp [*] <;> omega, rfl⟩
theorem den_any (x : Int) (w : World) : Calls Try.prog 48 #[.int .i64 x] w fun e w' => e = .returned (.bool (isDen x)) ∧ w = w' := by
  have hq : isDen x = (decide (1 ≤ x) && decide (x ≤ 1099511627776)) := rfl
  rw [hq]; clear hq
  go_enter Try.func48, Try.ntmps48
  go_wp2
  all_goals
    go_ret
    exact ⟨by simp [*] <;> omega, rfl⟩
theorem fit_any (x : Int) (w : World) : Calls Try.prog 75 #[.int .i64 x] w fun e w' => e = .returned (.tuple #[.int .i64 (fitS x).1, .int .i64 (fitS x).2]) ∧ w = w' := by
  cases h : isQ x
  · rw [fitS_no h]
    go_enter Try.func75, Try.ntmps75
    go_wp2_with (go_at_call 39; refine (is_any _ _).mono ?_; rintro e w' ⟨rfl, rfl⟩)
    go_ret2
    exact ⟨rfl, rfl⟩
  · rw [fitS_yes h]
    go_enter Try.func75, Try.ntmps75
    go_wp2_with (go_at_call 39; refine (is_any _ _).mono ?_; rintro e w' ⟨rfl, rfl⟩)
    go_ret2
    exact ⟨rfl, rfl⟩
theorem abs_any (x : Int) (w : World) (h : -9223372036854775807 ≤ x) : Calls Try.prog 81 #[.int .i64 x] w fun e w' => e = .returned (.int .i64 (x.natAbs : Int)) ∧ w = w' := by
  by_cases h0 : x < 0
  · have e : (x.natAbs : Int) = -x := by omega
    rw [e]; clear e
    go_enter Try.func81, Try.ntmps81
    go_wp2
    go_ret
    exact ⟨rfl, rfl⟩
  · have e : (x.natAbs : Int) = x := by omega
    rw [e]; clear e
    go_enter Try.func81, Try.ntmps81
    go_wp2
    go_ret
    exact ⟨rfl, rfl⟩

theorem dn_bd (x n d : Int) (hd : d ≠ 0) : -1152921504606846977 ≤ dn x n d ∧ dn x n d ≤ 1152921504606846976 := by
  have h1 := dvq_bd x.natAbs n.natAbs d.natAbs (by omega) (by omega) (by omega)
  unfold dn
  split
  · omega
  · split <;> omega

theorem up_any (x n d : Int) (w : World) (hx0 : -4398046511104 ≤ x) (hx : x ≤ 4398046511104) (hn0 : -4398046511104 ≤ n) (hn : n ≤ 4398046511104) (hd0 : -4398046511104 ≤ d) (hd : d ≤ 4398046511104) (hdz : d ≠ 0) :
    Calls Try.prog 87 #[.int .i64 x, .int .i64 n, .int .i64 d] w fun e w' => e = .returned (.int .i64 (up x n d)) ∧ ∃ k, w.drewN k = w' := by
  obtain ⟨b1, b2⟩ := dn_bd (-x) n d hdz
  have H := Lib.hid (fun w => down_any (-x) n d w (by omega) (by omega) hn0 hn hd0 hd hdz)
  unfold up
  generalize dn (-x) n d = v at *
  go_enter Try.func87, Try.ntmps87
  go_wp2_with (go_at_call 46; refine (H.out _).mono ?_; rintro e w' ⟨rfl, k, rfl⟩)
  go_ret
  exact ⟨rfl, _, rfl⟩

theorem minus_sg (x n d : Int) : (bne (bne (decide (x < 0)) (decide (n < 0))) (decide (d < 0)) = true → x ≠ 0 → n ≠ 0 → d ≠ 0 → ¬ 0 ≤ sg x * sg n * sg d) ∧ (bne (bne (decide (x < 0)) (decide (n < 0))) (decide (d < 0)) = false → d ≠ 0 → 0 ≤ sg x * sg n * sg d) := by
  unfold sg
  by_cases h1 : x < 0 <;> by_cases h2 : n < 0 <;> by_cases h3 : d < 0 <;> by_cases h4 : 0 < x <;> by_cases h5 : 0 < n <;> by_cases h6 : 0 < d <;> simp [h1, h2, h3, h4, h5, h6] <;> omega

/-- What the reference's Down computes, out of the same parts. -/
def dnR (x n d : Int) : Int :=
  if bne (bne (decide (x < 0)) (decide (n < 0))) (decide (d < 0)) = true then (if 0 < Pl.dvr x.natAbs n.natAbs d.natAbs then -(Pl.dvq x.natAbs n.natAbs d.natAbs + 1) else -(Pl.dvq x.natAbs n.natAbs d.natAbs))
  else Pl.dvq x.natAbs n.natAbs d.natAbs
theorem dnR_eq (x n d : Int) (hd : d ≠ 0) : dnR x n d = dn x n d := by
  have h := minus_sg x n d
  unfold dnR dn
  by_cases hb : bne (bne (decide (x < 0)) (decide (n < 0))) (decide (d < 0)) = true
  · rw [if_pos hb]
    by_cases hx : x = 0
    · subst hx; simp [Pl.dvq, Pl.dvr, sg, Pl.LIM]
    by_cases hn : n = 0
    · subst hn; simp [Pl.dvq, Pl.dvr, sg, Pl.LIM]
    rw [if_neg (h.1 hb hx hn hd)]
  · rw [if_neg hb, if_pos (h.2 (by simpa using hb) hd)]

set_option maxHeartbeats 400000 in
theorem Down_any (x n d : Int) (w : World) (hx0 : -4398046511104 ≤ x) (hx : x ≤ 4398046511104) (hn0 : -4398046511104 ≤ n) (hn : n ≤ 4398046511104) (hd0 : -4398046511104 ≤ d) (hd : d ≤ 4398046511104) (hdz : d ≠ 0) :
    Calls Try.prog 49 #[.int .i64 x, .int .i64 n, .int .i64 d] w fun e w' => e = .returned (.int .i64 (dn x n d)) ∧ ∃ k, w.drewN k = w' := by
  rw [← dnR_eq x n d hdz]
  have hu : dnR x n d = if bne (bne (decide (x < 0)) (decide (n < 0))) (decide (d < 0)) = true then (if 0 < Pl.dvr x.natAbs n.natAbs d.natAbs then -(Pl.dvq x.natAbs n.natAbs d.natAbs + 1) else -(Pl.dvq x.natAbs n.natAbs d.natAbs)) else Pl.dvq x.natAbs n.natAbs d.natAbs := rfl
  rw [hu]; clear hu
  have b1 := dvq_bd x.natAbs n.natAbs d.natAbs (by omega) (by omega) (by omega)
  have b2 := dvr_bd x.natAbs n.natAbs d.natAbs (by omega)
  have H := Lib.hid (fun w => whole_any (x.natAbs : Int) (n.natAbs : Int) (d.natAbs : Int) w (by omega) (by omega) (by omega) (by omega) (by omega) (by omega))
  generalize Pl.dvq x.natAbs n.natAbs d.natAbs = q at *
  generalize Pl.dvr x.natAbs n.natAbs d.natAbs = r at *
  obtain ⟨c1, c2⟩ := b1
  obtain ⟨c3, c4⟩ := b2
  have a1 : -9223372036854775807 ≤ x := by omega
  have a2 : -9223372036854775807 ≤ n := by omega
  have a3 : -9223372036854775807 ≤ d := by omega
  cases h1 : decide (x < 0) <;> cases h2 : decide (n < 0) <;> cases h3 : decide (d < 0)
  all_goals
    simp only [bne_self_eq_false, Bool.bne_false, Bool.bne_true, Bool.not_true, Bool.not_false, reduceIte, Bool.false_eq_true]
    go_enter Try.func49, Try.ntmps49
    go_wp2_with (first
      | (go_at_call 81; refine (abs_any _ _ (by assumption)).mono ?_; rintro e w' ⟨rfl, rfl⟩)
      | (go_at_call 80; refine (H.out _).mono ?_; rintro e w' ⟨rfl, k, rfl⟩))
    all_goals
      go_ret
      exact ⟨by simp [*], _, rfl⟩

/-- The argument checks of the functions of numbers fail. -/
theorem numS_no {x n d v : Int} (h : ¬ (isQ x = true ∧ isQ n = true ∧ isDen d = true)) : numS x n d v = (0, 2) := if_neg h
theorem numS_yes {x n d v : Int} (h1 : isQ x = true) (h2 : isQ n = true) (h3 : isDen d = true) : numS x n d v = fitS v := if_pos ⟨h1, h2, h3⟩

theorem numS_n1 {x n d v : Int} (h : isQ x = false) : numS x n d v = (0, 2) := by simp [numS, h]
theorem numS_n2 {x n d v : Int} (h : isQ n = false) : numS x n d v = (0, 2) := by simp [numS, h]
theorem numS_n3 {x n d v : Int} (h : isDen d = false) : numS x n d v = (0, 2) := by simp [numS, h]

set_option maxHeartbeats 400000 in
theorem Floor_any (x n d : Int) (w : World) : Calls Try.prog 37 #[.int .i64 x, .int .i64 n, .int .i64 d] w fun e w' => e = .returned (.tuple #[.int .i64 (numS x n d (dn x n d)).1, .int .i64 (numS x n d (dn x n d)).2]) ∧ ∃ k, w.drewN k = w' := by
  cases h1 : isQ x
  · rw [numS_n1 h1]
    go_enter Try.func37, Try.ntmps37
    go_wp2_with (first | (go_at_call 39; refine (is_any _ _).mono ?_; rintro e w' ⟨rfl, rfl⟩) | (go_at_call 45; refine (below_any _ _).mono ?_; rintro e w' ⟨rfl, rfl⟩))
    go_ret2
    exact ⟨rfl, 0, rfl⟩
  cases h2 : isQ n
  · rw [numS_n2 h2]
    go_enter Try.func37, Try.ntmps37
    go_wp2_with (first | (go_at_call 39; refine (is_any _ _).mono ?_; rintro e w' ⟨rfl, rfl⟩) | (go_at_call 45; refine (below_any _ _).mono ?_; rintro e w' ⟨rfl, rfl⟩))
    go_ret2
    exact ⟨rfl, 0, rfl⟩
  cases h3 : isDen d
  · rw [numS_n3 h3]
    go_enter Try.func37, Try.ntmps37
    go_wp2_with (first | (go_at_call 39; refine (is_any _ _).mono ?_; rintro e w' ⟨rfl, rfl⟩) | (go_at_call 45; refine (below_any _ _).mono ?_; rintro e w' ⟨rfl, rfl⟩))
    go_ret2
    exact ⟨rfl, 0, rfl⟩
  rw [numS_yes h1 h2 h3]
  obtain ⟨q1, q2⟩ := (isQ_iff _).1 h1
  obtain ⟨q3, q4⟩ := (isQ_iff _).1 h2
  obtain ⟨q5, q6⟩ := (isDen_iff _).1 h3
  have H := Lib.hid (fun w => down_any x n d w (by omega) (by omega) (by omega) (by omega) (by omega) (by omega) (by omega))
  clear q1 q2 q3 q4 q5 q6
  generalize dn x n d = v at *
  go_enter Try.func37, Try.ntmps37
  go_wp2_with (first | (go_at_call 39; refine (is_any _ _).mono ?_; rintro e w' ⟨rfl, rfl⟩) | (go_at_call 45; refine (below_any _ _).mono ?_; rintro e w' ⟨rfl, rfl⟩) | (go_at_call 46; refine (H.out _).mono ?_; rintro e w' ⟨rfl, k, rfl⟩) | (go_at_call 75; refine (fit_any _ _).mono ?_; rintro e w' ⟨rfl, rfl⟩))
  go_ret2
  exact ⟨rfl, _, rfl⟩

end Go.Proofs.Ytkldlmbccdfjdaa
