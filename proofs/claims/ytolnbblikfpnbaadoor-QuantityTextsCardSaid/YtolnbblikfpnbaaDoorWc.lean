/-
  The walks of the functions of numbers of layer 1, and of their kin in the reference: below, fit, up, b2i, Floor, Ceil, Round; Is, den, abs, Down, Up, number, Floor, Ceil, Round.
-/
import Derived.Test.YtolnbblikfpnbaaDoorWb
set_option linter.unusedSimpArgs false
set_option linter.unusedVariables false
namespace Go.Proofs.YtolnbblikfpnbaaDoor
open Go.RowKit

def isDen (x : Int) : Bool := decide (1 ≤ x) && decide (x ≤ 1099511627776)
theorem isDen_iff (x : Int) : isDen x = true ↔ 1 ≤ x ∧ x ≤ 1099511627776 := by simp [isDen]
theorem isDen_false (x : Int) : isDen x = false ↔ (x < 1 ∨ 1099511627776 < x) := by
  rw [← Bool.not_eq_true, isDen_iff]; omega

/-- A result, or ErrOver. -/
def fitS (v : Int) : Int × Int := if isQ v = true then (v, 0) else (0, 4)
theorem fitS_yes {v : Int} (h : isQ v = true) : fitS v = (v, 0) := by simp [fitS, h]
theorem fitS_no {v : Int} (h : isQ v = false) : fitS v = (0, 4) := by simp [fitS, h]
/-- What the three functions do with a result. -/
def numS (x n d v : Int) : Int × Int := if isQ x = true ∧ isQ n = true ∧ isDen d = true then fitS v else (0, 2)
/-- x n / d + 1/2, rounded down. -/
def rnd (x n d : Int) : Int :=
  if 0 ≤ sg x * sg n then Pl.dvq x.natAbs n.natAbs d + (if d ≤ 2 * Pl.dvr x.natAbs n.natAbs d then 1 else 0)
  else -(Pl.dvq x.natAbs n.natAbs d + (if d < 2 * Pl.dvr x.natAbs n.natAbs d then 1 else 0))

theorem below_any (x : Int) (w : World) : Calls Tryd.prog 31 #[.int .i64 x] w fun e w' => e = .returned (.bool (isDen x)) ∧ w = w' := by
  have hq : isDen x = (decide (1 ≤ x) && decide (x ≤ 1099511627776)) := rfl
  rw [hq]; clear hq
  go_enter Tryd.func31, Tryd.ntmps31
  go_wp2
  all_goals
    go_ret
    exact ⟨by simp [*] <;> omega, rfl⟩
theorem Is_any (x : Int) (w : World) : Calls Tryd.prog 39 #[.int .i64 x] w fun e w' => e = .returned (.bool (isQ x)) ∧ w = w' := by
  have hq : isQ x = (decide (-1099511627776 ≤ x) && decide (x ≤ 1099511627776)) := rfl
  rw [hq]; clear hq
  go_enter Tryd.func39, Tryd.ntmps39
  go_wp2
  all_goals
    go_ret
    exact ⟨by simp [*] <;> omega, rfl⟩
theorem fit_any (x : Int) (w : World) : Calls Tryd.prog 32 #[.int .i64 x] w fun e w' => e = .returned (.tuple #[.int .i64 (fitS x).1, .int .i64 (fitS x).2]) ∧ w = w' := by
  cases h : isQ x
  · rw [fitS_no h]
    go_enter Tryd.func32, Tryd.ntmps32
    go_wp2_with (go_at_call 30; refine (is_any _ _).mono ?_; rintro e w' ⟨rfl, rfl⟩)
    go_ret2
    exact ⟨rfl, rfl⟩
  · rw [fitS_yes h]
    go_enter Tryd.func32, Tryd.ntmps32
    go_wp2_with (go_at_call 30; refine (is_any _ _).mono ?_; rintro e w' ⟨rfl, rfl⟩)
    go_ret2
    exact ⟨rfl, rfl⟩
theorem dn_bd (x n d : Int) (hd : d ≠ 0) : -1152921504606846977 ≤ dn x n d ∧ dn x n d ≤ 1152921504606846976 := by
  have h1 := dvq_bd x.natAbs n.natAbs d.natAbs (by omega) (by omega) (by omega)
  unfold dn
  split
  · omega
  · split <;> omega

theorem up_any (x n d : Int) (w : World) (hx0 : -4398046511104 ≤ x) (hx : x ≤ 4398046511104) (hn0 : -4398046511104 ≤ n) (hn : n ≤ 4398046511104) (hd0 : -4398046511104 ≤ d) (hd : d ≤ 4398046511104) (hdz : d ≠ 0) :
    Calls Tryd.prog 51 #[.int .i64 x, .int .i64 n, .int .i64 d] w fun e w' => e = .returned (.int .i64 (up x n d)) ∧ ∃ k, w.drewN k = w' := by
  obtain ⟨b1, b2⟩ := dn_bd (-x) n d hdz
  have H := Lib.hid (fun w => down_any (-x) n d w (by omega) (by omega) hn0 hn hd0 hd hdz)
  unfold up
  generalize dn (-x) n d = v at *
  go_enter Tryd.func51, Tryd.ntmps51
  go_wp2_with (go_at_call 33; refine (H.out _).mono ?_; rintro e w' ⟨rfl, k, rfl⟩)
  go_ret
  exact ⟨rfl, _, rfl⟩

theorem minus_sg (x n d : Int) : (bne (bne (decide (x < 0)) (decide (n < 0))) (decide (d < 0)) = true → x ≠ 0 → n ≠ 0 → d ≠ 0 → ¬ 0 ≤ sg x * sg n * sg d) ∧ (bne (bne (decide (x < 0)) (decide (n < 0))) (decide (d < 0)) = false → d ≠ 0 → 0 ≤ sg x * sg n * sg d) := by
  unfold sg
  by_cases h1 : x < 0 <;> by_cases h2 : n < 0 <;> by_cases h3 : d < 0 <;> by_cases h4 : 0 < x <;> by_cases h5 : 0 < n <;> by_cases h6 : 0 < d <;> simp [h1, h2, h3, h4, h5, h6] <;> omega

/-- What the reference's Down computes, out of the same parts. -/
def dnR (x n d : Int) : Int :=
  if bne (bne (decide (x < 0)) (decide (n < 0))) (decide (d < 0)) = true then (if 0 < Pl.dvr x.natAbs n.natAbs d.natAbs then -(Pl.dvq x.natAbs n.natAbs d.natAbs + 1) else -(Pl.dvq x.natAbs n.natAbs d.natAbs))
  else Pl.dvq x.natAbs n.natAbs d.natAbs
theorem dnR_eq (x n d : Int) (hd : d ≠ 0) : dnR x n d = dn x n d := by
  have h := minus_sg x n d
  unfold dnR dn
  by_cases hb : bne (bne (decide (x < 0)) (decide (n < 0))) (decide (d < 0)) = true
  · rw [if_pos hb]
    by_cases hx : x = 0
    · subst hx; simp [Pl.dvq, Pl.dvr, sg, Pl.LIM]
    by_cases hn : n = 0
    · subst hn; simp [Pl.dvq, Pl.dvr, sg, Pl.LIM]
    rw [if_neg (h.1 hb hx hn hd)]
  · rw [if_neg hb, if_pos (h.2 (by simpa using hb) hd)]

/-- The argument checks of the functions of numbers fail. -/
theorem numS_no {x n d v : Int} (h : ¬ (isQ x = true ∧ isQ n = true ∧ isDen d = true)) : numS x n d v = (0, 2) := if_neg h
theorem numS_yes {x n d v : Int} (h1 : isQ x = true) (h2 : isQ n = true) (h3 : isDen d = true) : numS x n d v = fitS v := if_pos ⟨h1, h2, h3⟩

theorem numS_n1 {x n d v : Int} (h : isQ x = false) : numS x n d v = (0, 2) := by simp [numS, h]
theorem numS_n2 {x n d v : Int} (h : isQ n = false) : numS x n d v = (0, 2) := by simp [numS, h]
theorem numS_n3 {x n d v : Int} (h : isDen d = false) : numS x n d v = (0, 2) := by simp [numS, h]

set_option maxHeartbeats 400000 in
theorem Floor_any (x n d : Int) (w : World) : Calls Tryd.prog 15 #[.int .i64 x, .int .i64 n, .int .i64 d] w fun e w' => e = .returned (.tuple #[.int .i64 (numS x n d (dn x n d)).1, .int .i64 (numS x n d (dn x n d)).2]) ∧ ∃ k, w.drewN k = w' := by
  cases h1 : isQ x
  · rw [numS_n1 h1]
    go_enter Tryd.func15, Tryd.ntmps15
    go_wp2_with (first | (go_at_call 30; refine (is_any _ _).mono ?_; rintro e w' ⟨rfl, rfl⟩) | (go_at_call 31; refine (below_any _ _).mono ?_; rintro e w' ⟨rfl, rfl⟩))
    go_ret2
    exact ⟨rfl, 0, rfl⟩
  cases h2 : isQ n
  · rw [numS_n2 h2]
    go_enter Tryd.func15, Tryd.ntmps15
    go_wp2_with (first | (go_at_call 30; refine (is_any _ _).mono ?_; rintro e w' ⟨rfl, rfl⟩) | (go_at_call 31; refine (below_any _ _).mono ?_; rintro e w' ⟨rfl, rfl⟩))
    go_ret2
    exact ⟨rfl, 0, rfl⟩
  cases h3 : isDen d
  · rw [numS_n3 h3]
    go_enter Tryd.func15, Tryd.ntmps15
    go_wp2_with (first | (go_at_call 30; refine (is_any _ _).mono ?_; rintro e w' ⟨rfl, rfl⟩) | (go_at_call 31; refine (below_any _ _).mono ?_; rintro e w' ⟨rfl, rfl⟩))
    go_ret2
    exact ⟨rfl, 0, rfl⟩
  rw [numS_yes h1 h2 h3]
  obtain ⟨q1, q2⟩ := (isQ_iff _).1 h1
  obtain ⟨q3, q4⟩ := (isQ_iff _).1 h2
  obtain ⟨q5, q6⟩ := (isDen_iff _).1 h3
  have H := Lib.hid (fun w => down_any x n d w (by omega) (by omega) (by omega) (by omega) (by omega) (by omega) (by omega))
  clear q1 q2 q3 q4 q5 q6
  generalize dn x n d = v at *
  go_enter Tryd.func15, Tryd.ntmps15
  go_wp2_with (first | (go_at_call 30; refine (is_any _ _).mono ?_; rintro e w' ⟨rfl, rfl⟩) | (go_at_call 31; refine (below_any _ _).mono ?_; rintro e w' ⟨rfl, rfl⟩) | (go_at_call 33; refine (H.out _).mono ?_; rintro e w' ⟨rfl, k, rfl⟩) | (go_at_call 32; refine (fit_any _ _).mono ?_; rintro e w' ⟨rfl, rfl⟩))
  go_ret2
  exact ⟨rfl, _, rfl⟩

end Go.Proofs.YtolnbblikfpnbaaDoor
