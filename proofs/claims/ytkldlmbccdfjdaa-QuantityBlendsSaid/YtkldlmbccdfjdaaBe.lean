/-
  What Move and Blend return is a valid curve: plain law.
-/
import Derived.Test.YtkldlmbccdfjdaaBm
import Derived.Test.YtkldlmbccdfjdaaRc
set_option linter.unusedSimpArgs false
set_option linter.unusedVariables false
namespace Go.Proofs.Ytkldlmbccdfjdaa
theorem dn_ediv {x n d : Int} (hx1 : -2199023255552 ≤ x) (hx2 : x ≤ 2199023255552) (hn : 0 ≤ n) (hnd : n ≤ d) (hd : 1 ≤ d) : dn x n d = x * n / d := by
  have hab : ((x.natAbs : Int)) * n / d ≤ 2199023255552 := by
    have h1 : (x.natAbs : Int) ≤ 2199023255552 := by omega
    have h2 : (x.natAbs : Int) * n ≤ 2199023255552 * d := Int.le_trans (Int.mul_le_mul_of_nonneg_left hnd (by omega)) (Int.mul_le_mul_of_nonneg_right h1 (by omega))
    exact Int.ediv_le_of_le_mul (by omega) h2
  have en : (n.natAbs : Int) = n := Int.natAbs_of_nonneg hn
  have ed : (d.natAbs : Int) = d := Int.natAbs_of_nonneg (by omega)
  have hlim : ¬ Pl.LIM < (x.natAbs : Int) * n / d := by unfold Pl.LIM; omega
  have sd : sg d = 1 := by unfold sg; rw [if_neg (by omega), if_pos (by omega)]
  unfold dn
  rw [en, ed, sd]
  unfold Pl.dvq Pl.dvr
  rw [if_neg hlim, if_neg hlim]
  rcases Int.lt_or_le x 0 with h | h
  · have sx : sg x = -1 := by unfold sg; rw [if_pos h]
    rw [sx]
    have ex : (x.natAbs : Int) = -x := by omega
    rw [ex]
    rcases Int.lt_or_eq_of_le hn with h0 | h0
    · have sn : sg n = 1 := by unfold sg; rw [if_neg (by omega), if_pos h0]
      rw [sn, if_neg (by decide)]
      have e1 := Int.emod_add_mul_ediv (-x * n) d
      have e2 := Int.emod_nonneg (-x * n) (show d ≠ 0 by omega)
      have e3 := Int.emod_lt_of_pos (-x * n) (show 0 < d by omega)
      generalize (-x * n) / d = q at *
      generalize (-x * n) % d = r at *
      have e4 : x * n = -(r + d * q) := by rw [e1, Int.neg_mul, Int.neg_neg]
      rw [e4]
      by_cases hr : 0 < r
      · rw [if_pos hr]
        refine (((Int.ediv_emod_unique (a := -(r + d * q)) (b := d) (q := -(q + 1)) (r := d - r) (by omega)).2 ⟨?_, by omega, by omega⟩).1).symm
        rw [Int.mul_neg, Int.mul_add]
        omega
      · rw [if_neg hr]
        refine (((Int.ediv_emod_unique (a := -(r + d * q)) (b := d) (q := -q) (r := 0) (by omega)).2 ⟨?_, by omega, by omega⟩).1).symm
        rw [Int.mul_neg]
        omega
    · subst h0
      simp [sg]
  · have ex : (x.natAbs : Int) = x := Int.natAbs_of_nonneg h
    rw [ex]
    have : 0 ≤ sg x * sg n * 1 := by
      have q1 : 0 ≤ sg x := by unfold sg; split <;> (try split) <;> omega
      have q2 : 0 ≤ sg n := by unfold sg; split <;> (try split) <;> omega
      rw [Int.mul_one]
      exact Int.mul_nonneg q1 q2
    rw [if_pos this]
theorem bmix_ediv {y v n d : Int} (hy : -1099511627776 ≤ y ∧ y ≤ 1099511627776) (hv : -1099511627776 ≤ v ∧ v ≤ 1099511627776) (hn : 0 ≤ n) (hnd : n ≤ d) (hd : 1 ≤ d) : bmix y v n d = (y * (d - n) + v * n) / d := by
  unfold bmix
  rw [dn_ediv (by omega) (by omega) hn hnd hd]
  have : y * (d - n) + v * n = (v - y) * n + d * y := by
    rw [Int.mul_sub, Int.sub_mul, Int.mul_comm d y]
    omega
  rw [this, Int.add_mul_ediv_left _ _ (show d ≠ 0 by omega)]
  omega
theorem bmix_mono {y v y' v' n d : Int} (hy : -1099511627776 ≤ y ∧ y ≤ 1099511627776) (hv : -1099511627776 ≤ v ∧ v ≤ 1099511627776) (hy' : -1099511627776 ≤ y' ∧ y' ≤ 1099511627776) (hv' : -1099511627776 ≤ v' ∧ v' ≤ 1099511627776) (hn : 0 ≤ n) (hnd : n ≤ d) (hd : 1 ≤ d)
    (h1 : y ≤ y') (h2 : v ≤ v') : bmix y v n d ≤ bmix y' v' n d := by
  rw [bmix_ediv hy hv hn hnd hd, bmix_ediv hy' hv' hn hnd hd]
  refine Int.ediv_le_ediv (by omega) ?_
  have q1 := Int.mul_le_mul_of_nonneg_right h1 (show 0 ≤ d - n by omega)
  have q2 := Int.mul_le_mul_of_nonneg_right h2 hn
  omega
theorem bmix_in {y v n d : Int} (hy : -1099511627776 ≤ y ∧ y ≤ 1099511627776) (hv : -1099511627776 ≤ v ∧ v ≤ 1099511627776) (hn : 0 ≤ n) (hnd : n ≤ d) (hd : 1 ≤ d) : isQ (bmix y v n d) = true := by
  rw [isQ_iff]
  have e1 : bmix (-1099511627776) (-1099511627776) n d = -1099511627776 := by unfold bmix; rw [show (-1099511627776 : Int) - -1099511627776 = 0 by decide, dn_ediv (by omega) (by omega) hn hnd hd]; simp
  have e2 : bmix 1099511627776 1099511627776 n d = 1099511627776 := by unfold bmix; rw [show (1099511627776 : Int) - 1099511627776 = 0 by decide, dn_ediv (by omega) (by omega) hn hnd hd]; simp
  have q1 := bmix_mono (y := -1099511627776) (v := -1099511627776) (by omega) (by omega) hy hv hn hnd hd hy.1 hv.1
  have q2 := bmix_mono (y' := 1099511627776) (v' := 1099511627776) hy hv (by omega) (by omega) hn hnd hd hy.2 hv.2
  rw [e1] at q1
  rw [e2] at q2
  exact ⟨q1, q2⟩
theorem blend_valid {xs ys us vs : List Int} {n k : Int} (h : (blendS xs ys us vs n k).2 = 0) : checkC (blendS xs ys us vs n k).1.1 (blendS xs ys us vs n k).1.2 = 0 := by
  unfold blendS at h ⊢
  by_cases h0 : curvesS xs ys us vs ≠ 0
  · rw [if_pos h0] at h; exact absurd h h0
  rw [if_neg h0] at h ⊢
  by_cases h1 : xs ≠ us
  · rw [if_pos h1] at h; exact absurd h (by decide)
  rw [if_neg h1] at h ⊢
  by_cases h2 : ¬ (isDen k = true ∧ 0 ≤ n ∧ n ≤ k)
  · rw [if_pos h2] at h; exact absurd h (by decide)
  rw [if_neg h2]
  obtain rfl : xs = us := Classical.byContradiction h1
  obtain ⟨a1, a2, a3⟩ := Classical.not_not.1 h2
  have hk := (isDen_iff _).1 a1
  unfold curvesS at h0
  have hE : checkC xs ys = 0 ∧ checkC xs vs = 0 := by
    refine ⟨Classical.byContradiction fun c => h0 ?_, Classical.byContradiction fun c => h0 ?_⟩
    · split
      · decide
      · rw [if_pos (Or.inl c)]; decide
    · split
      · decide
      · rw [if_pos (Or.inr c)]; decide
  obtain ⟨⟨⟨l1, l2, l3, l4⟩, g1⟩, h64⟩ := checkC_good hE.1
  obtain ⟨⟨⟨m1, m2, m3, m4⟩, g2⟩, -⟩ := checkC_good hE.2
  have hlen : (blendRow ys vs n k).length = xs.length := by rw [blendRow_len, l1]
  have hgood : goodC xs (blendRow ys vs n k) := by
    rw [goodC_iff hlen.symm l2]
    intro j hj
    have hjy : j < ys.length := by omega
    refine ⟨(isQ_iff _).2 (allQ_getD l3 j), ?_, fun h0 => ?_⟩
    · rw [blendRow_at hjy]
      exact bmix_in (allQ_getD l4 j) (allQ_getD m4 j) a2 a3 hk.1
    · have r1 := g1 (j - 1) (by omega)
      have r2 := g2 (j - 1) (by omega)
      unfold rising at r1 r2
      rw [show j - 1 + 1 = j by omega] at r1 r2
      refine ⟨r1.1, ?_⟩
      rw [blendRow_at hjy, blendRow_at (show j - 1 < ys.length by omega)]
      exact bmix_mono (allQ_getD l4 _) (allQ_getD m4 _) (allQ_getD l4 _) (allQ_getD m4 _) a2 a3 hk.1 r1.2 r2.2
  unfold checkC
  rw [if_neg (by show ¬ 64 < max xs.length (blendRow ys vs n k).length; omega), if_pos hgood]
theorem checkC_same {xs ys : List Int} (h : checkC xs ys = 0) : xs.length = ys.length ∧ xs.length ≤ 64 := ⟨(checkC_good h).1.1.1, (checkC_good h).2⟩
theorem blend_len (xs ys us vs : List Int) (n k : Int) : (blendS xs ys us vs n k).1.1.length = (blendS xs ys us vs n k).1.2.length ∧ (blendS xs ys us vs n k).1.1.length ≤ 64 := by
  by_cases h : (blendS xs ys us vs n k).2 = 0
  · exact checkC_same (blend_valid h)
  · unfold blendS at h ⊢
    split at h
    · rename_i h0; rw [if_pos h0]; simp
    · rename_i h0
      rw [if_neg h0]
      split at h
      · rename_i h1; rw [if_pos h1]; simp
      · rename_i h1
        rw [if_neg h1]
        split at h
        · rename_i h2; rw [if_pos h2]; simp
        · exact absurd rfl h
theorem move_len (xs ys : List Int) (dx dy : Int) : (moveS xs ys dx dy).1.1.length = (moveS xs ys dx dy).1.2.length ∧ (moveS xs ys dx dy).1.1.length ≤ 64 := by
  unfold moveS
  split
  · simp
  · rename_i h
    split
    · simp
    · split
      · have := checkC_same (Classical.not_not.1 h)
        simpa using this
      · simp
end Go.Proofs.Ytkldlmbccdfjdaa
