/-
  The walks of Round, here and in the reference.
-/
import Derived.Test.YtkldlmbccdfjdaaWc
set_option linter.unusedSimpArgs false
set_option linter.unusedVariables false
namespace Go.Proofs.Ytkldlmbccdfjdaa
open Go.RowKit

theorem rnd_up (q r d : Int) (hr : 0 ≤ r) (hrd : r < d) : q + 2 * r / d = q + (if d ≤ 2 * r then 1 else 0) := by
  split
  · have : 2 * r / d = 1 := by
      rw [Int.ediv_eq_iff_of_pos (by omega)]; omega
    omega
  · rw [Int.ediv_eq_zero_of_lt (by omega) (by omega)]
theorem rnd_down (r d : Int) (hr : 0 ≤ r) (hrd : r < d) : (2 * r + d - 1) / d - 1 + (if (r == 0) = true then 1 else 0) = (if d < 2 * r then 1 else 0) := by
  by_cases h0 : r = 0
  · subst h0
    have h1 : (2 * 0 + d - 1) / d = 0 := Int.ediv_eq_zero_of_lt (by omega) (by omega)
    have h2 : ¬ d < 2 * 0 := by omega
    rw [h1, if_neg h2]; rfl
  have hb : (r == 0) = false := by simpa using h0
  rw [hb]
  by_cases h2 : d < 2 * r
  · have h1 : (2 * r + d - 1) / d = 2 := by
      rw [Int.ediv_eq_iff_of_pos (by omega)]; omega
    rw [h1, if_pos h2]; rfl
  · have h1 : (2 * r + d - 1) / d = 1 := by
      rw [Int.ediv_eq_iff_of_pos (by omega)]; omega
    rw [h1, if_neg h2]; rfl

/-- The reference's rounding, by its own tests. -/
def rndR (x n d : Int) : Int :=
  if (decide (x < 0) == decide (n < 0)) || (x == 0) || (n == 0) then Pl.dvq x.natAbs n.natAbs d + (if d ≤ 2 * Pl.dvr x.natAbs n.natAbs d then 1 else 0)
  else -(Pl.dvq x.natAbs n.natAbs d + (if d < 2 * Pl.dvr x.natAbs n.natAbs d then 1 else 0))
theorem rndR_eq (x n d : Int) : rndR x n d = rnd x n d := by
  have h : ((decide (x < 0) == decide (n < 0)) || (x == 0) || (n == 0)) = true ↔ 0 ≤ sg x * sg n := by
    unfold sg
    by_cases h1 : x < 0 <;> by_cases h2 : n < 0 <;> by_cases h4 : 0 < x <;> by_cases h5 : 0 < n <;> simp [h1, h2, h4, h5] <;> omega
  unfold rndR rnd
  by_cases hb : ((decide (x < 0) == decide (n < 0)) || (x == 0) || (n == 0)) = true
  · rw [if_pos hb, if_pos (h.1 hb)]
  · rw [if_neg hb, if_neg (fun c => hb (h.2 c))]

end Go.Proofs.Ytkldlmbccdfjdaa
