/-
  The plain arithmetic of layer 1 (quantity): x n / d for whole numbers, bit by bit, and rounded down; no program in sight.
-/
set_option linter.unusedSimpArgs false
set_option linter.unusedVariables false
namespace Go.Proofs.Ytkldlmbccdfjdaa
namespace Pl

/-- What stands for a number far beyond a quantity. -/
def FAR : Int := 1152921504606846976
/-- From here on a partial quotient is far. -/
def LIM : Int := 288230376151711744
/-- The greatest quantity. -/
def MQ : Int := 1099511627776

theorem FAR_val : FAR = 1152921504606846976 := rfl
theorem LIM_val : LIM = 288230376151711744 := rfl
theorem MQ_val : MQ = 1099511627776 := rfl

/-- The quotient that 'divide' returns, for numbers from 0 on. -/
def dvq (x n d : Int) : Int := if LIM < x * n / d then FAR else x * n / d
/-- The rest that 'divide' returns. -/
def dvr (x n d : Int) : Int := if LIM < x * n / d then 0 else x * n % d

/-- The first i of 44 binary digits of n. -/
def top (n : Int) (i : Nat) : Int := n / 2 ^ (44 - i)

theorem top_zero {n : Int} (h0 : 0 ≤ n) (h : n < 17592186044416) : top n 0 = 0 := by
  unfold top
  exact Int.ediv_eq_zero_of_lt h0 (by simpa using h)
theorem top_end (n : Int) : top n 44 = n := by simp [top]
theorem top_nonneg {n : Int} (h0 : 0 ≤ n) (i : Nat) : 0 ≤ top n i := by
  unfold top
  exact Int.ediv_nonneg h0 (Int.le_of_lt (Int.pow_pos (by decide)))
theorem top_le {n : Int} (h0 : 0 ≤ n) (i : Nat) : top n i ≤ n := by
  unfold top
  exact Int.ediv_le_self _ h0
theorem top_step (n : Int) (i : Nat) (hi : i < 44) : top n (i + 1) = 2 * top n i + n / 2 ^ (43 - i) % 2 := by
  unfold top
  have e : 44 - i = (43 - i) + 1 := by omega
  have e' : 44 - (i + 1) = 43 - i := by omega
  rw [e, e', Int.pow_succ, ← Int.ediv_ediv_of_nonneg (Int.le_of_lt (Int.pow_pos (by decide)))]
  generalize n / 2 ^ (43 - i) = m
  omega

/-- One digit more: the quotient and the rest. -/
theorem digit {x d m b : Int} (hd : 0 < d) :
    let q := x * m / d; let r := x * m % d
    x * (2 * m + b) / d = 2 * q + b * (x / d) + (2 * r + b * (x % d)) / d ∧ x * (2 * m + b) % d = (2 * r + b * (x % d)) % d := by
  intro q r
  have h1 : x * m = q * d + r := by have := Int.emod_add_mul_ediv (x * m) d; show x * m = x * m / d * d + x * m % d; rw [Int.mul_comm (x * m / d)]; omega
  have h2 : x = x / d * d + x % d := by have := Int.emod_add_mul_ediv x d; rw [Int.mul_comm (x / d)]; omega
  have h3 : x * (2 * m + b) = (2 * r + b * (x % d)) + (2 * q + b * (x / d)) * d := by
    have e1 : x * (2 * m + b) = 2 * (x * m) + b * x := by rw [Int.mul_add, Int.mul_left_comm, Int.mul_comm x b]
    have e2 : b * x = b * (x / d) * d + b * (x % d) := by
      conv => lhs; rw [h2]
      rw [Int.mul_add, Int.mul_assoc]
    rw [e1, e2, h1, Int.mul_add, Int.add_mul, Int.mul_assoc 2 q d]
    omega
  rw [h3, Int.add_mul_ediv_right _ _ (by omega), Int.add_mul_emod_self_right]
  exact ⟨by omega, rfl⟩

theorem ediv_mono {a b d : Int} (hd : 0 < d) (h : a ≤ b) : a / d ≤ b / d := Int.ediv_le_ediv hd h
theorem mul_mono {x a b : Int} (hx : 0 ≤ x) (h : a ≤ b) : x * a ≤ x * b := Int.mul_le_mul_of_nonneg_left h hx
/-- If a part of the digits has a quotient that is far, so has the whole number. -/
theorem far_of_top {x n d : Int} {i : Nat} (hx : 0 ≤ x) (hn : 0 ≤ n) (hd : 0 < d) (h : LIM < x * top n i / d) : LIM < x * n / d :=
  Int.lt_of_lt_of_le h (ediv_mono hd (mul_mono hx (top_le hn i)))

end Pl
end Go.Proofs.Ytkldlmbccdfjdaa
