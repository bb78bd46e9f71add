/-
  The walks of down, up, fit, below, ratio's parts, and of their kin in the reference: Is, den, abs, whole, Down, Up, number.
-/
import Derived.Test.YtolnbblikfpnbaaDoorWa
set_option linter.unusedSimpArgs false
set_option linter.unusedVariables false
namespace Go.Proofs.YtolnbblikfpnbaaDoor
open Go.RowKit

theorem sg_mul (x : Int) : x * sg x = (x.natAbs : Int) := by
  unfold sg; split <;> (try split) <;> omega
theorem sg_bd (x : Int) : -1 ≤ sg x ∧ sg x ≤ 1 := by
  unfold sg; split <;> (try split) <;> omega

/-- x n / d, rounded down, as 'down' returns it: what is far is far. -/
def dn (x n d : Int) : Int :=
  if 0 ≤ sg x * sg n * sg d then Pl.dvq x.natAbs n.natAbs d.natAbs
  else if 0 < Pl.dvr x.natAbs n.natAbs d.natAbs then -(Pl.dvq x.natAbs n.natAbs d.natAbs + 1) else -(Pl.dvq x.natAbs n.natAbs d.natAbs)
def up (x n d : Int) : Int := - dn (-x) n d

theorem dvq_bd (x n d : Int) (hx : 0 ≤ x) (hn : 0 ≤ n) (hd : 1 ≤ d) : 0 ≤ Pl.dvq x n d ∧ Pl.dvq x n d ≤ 1152921504606846976 := by
  have h := Int.ediv_nonneg (Int.mul_nonneg hx hn) (show 0 ≤ d by omega)
  unfold Pl.dvq Pl.FAR Pl.LIM
  split <;> omega
theorem dvr_bd (x n d : Int) (hd : 1 ≤ d) : 0 ≤ Pl.dvr x n d ∧ Pl.dvr x n d < d := by
  have h1 := Int.emod_nonneg (x * n) (show d ≠ 0 by omega)
  have h2 := Int.emod_lt_of_pos (x * n) (show 0 < d by omega)
  unfold Pl.dvr
  split <;> omega

theorem mul_one_bd {a b : Int} (ha : -1 ≤ a ∧ a ≤ 1) (hb : -1 ≤ b ∧ b ≤ 1) : -1 ≤ a * b ∧ a * b ≤ 1 := by
  have h1 : a = -1 ∨ a = 0 ∨ a = 1 := by omega
  rcases h1 with rfl | rfl | rfl <;> omega

set_option maxHeartbeats 400000 in
theorem down_any (x n d : Int) (w : World) (hx0 : -4398046511104 ≤ x) (hx : x ≤ 4398046511104) (hn0 : -4398046511104 ≤ n) (hn : n ≤ 4398046511104) (hd0 : -4398046511104 ≤ d) (hd : d ≤ 4398046511104) (hdz : d ≠ 0) :
    Calls Tryd.prog 33 #[.int .i64 x, .int .i64 n, .int .i64 d] w fun e w' => e = .returned (.int .i64 (dn x n d)) ∧ ∃ k, w.drewN k = w' := by
  unfold dn
  have mx := sg_mul x
  have mn := sg_mul n
  have md := sg_mul d
  have ax : (x.natAbs : Int) ≤ 4398046511104 := by omega
  have an : (n.natAbs : Int) ≤ 4398046511104 := by omega
  have ad : (d.natAbs : Int) ≤ 4398046511104 := by omega
  have ad1 : 1 ≤ (d.natAbs : Int) := by omega
  have bx := sg_bd x
  have bn := sg_bd n
  have bd := sg_bd d
  generalize x.natAbs = X at *
  generalize n.natAbs = N at *
  generalize d.natAbs = D at *
  have b1 := dvq_bd X N D (by omega) (by omega) (by omega)
  have b2 := dvr_bd X N D (by omega)
  have hdiv := fun w => divide_any X N D w (by omega) ax (by omega) an ad1 ad
  generalize Pl.dvq X N D = q at *
  generalize Pl.dvr X N D = r at *
  have HD := Lib.hid hdiv
  clear hdiv
  have bs1 := mul_one_bd bx bn
  generalize hs1 : sg x * sg n = s1 at *
  have bs2 := mul_one_bd bs1 bd
  generalize hs2 : s1 * sg d = s2 at *
  obtain ⟨c1, c2⟩ := b1
  obtain ⟨c3, c4⟩ := b2
  obtain ⟨c5, c6⟩ := bs1
  obtain ⟨c7, c8⟩ := bs2
  go_enter Tryd.func33, Tryd.ntmps33
  go_wp2_with (first
    | (go_at_call 50; refine (sign_any _ _).mono ?_; rintro e w' ⟨rfl, rfl⟩)
    | (go_at_call 49; refine (HD.out _).mono ?_; rintro e w' ⟨rfl, k, rfl⟩))
  all_goals
    go_ret
    exact ⟨by simp [*], _, rfl⟩

theorem sub_div {a d : Int} (hd : 0 < d) : (a - d) / d = a / d - 1 ∧ (a - d) % d = a % d := by
  have e : a - d = a + (-1) * d := by omega
  rw [e, Int.add_mul_ediv_right _ _ (by omega), Int.add_mul_emod_self_right]
  exact ⟨by omega, rfl⟩

end Go.Proofs.YtolnbblikfpnbaaDoor
