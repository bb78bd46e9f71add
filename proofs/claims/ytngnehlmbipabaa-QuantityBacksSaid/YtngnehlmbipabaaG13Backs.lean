/-
  The plain law of QuantityHalves.
-/
import Derived.Test.YtngnehlmbipabaaG12Backs
import Derived.Test.YtngnehlmbipabaaG2Backs
set_option linter.unusedSimpArgs false
set_option linter.unusedVariables false
namespace Go.Proofs.Ytngnehlmbipabaa
open Go.RowKit

theorem getD_of {l : List (Int × Int)} {k : Nat} (hk : k < l.length) : l.getD k (0, 0) = l[k] := by simp [List.getD_eq_getElem?_getD, List.getElem?_eq_getElem hk]
theorem checkB_of {l : List (Int × Int)} (h8 : l.length ≤ 8) (h : ∀ k, k < l.length → okS (l.getD k (0, 0)) = true) : checkB l = 0 := by
  refine checkB_ok.2 ⟨h8, ?_⟩
  rw [List.all_eq_true]
  intro s hs
  obtain ⟨k, hk, rfl⟩ := List.getElem_of_mem hs
  rw [← getD_of hk]
  exact h k hk
theorem all_of {l : List (Int × Int)} (h : ∀ k, k < l.length → okS (l.getD k (0, 0)) = true) : l.all okS = true := by
  rw [List.all_eq_true]
  intro s hs
  obtain ⟨k, hk, rfl⟩ := List.getElem_of_mem hs
  rw [← getD_of hk]
  exact h k hk
theorem list_of {l m : List (Int × Int)} (hl : l.length = m.length) (h : ∀ k, k < l.length → l.getD k (0, 0) = m.getD k (0, 0)) : l = m :=
  List.ext_getElem hl fun k h1 h2 => by rw [← getD_of h1, ← getD_of h2]; exact h k h1
theorem outs_get (g : SpF) (l m : List (Int × Int)) (n k : Nat) (hk : k < n) : (outs g l m n).getD k (0, 0) = (gAt g l m k).1 := by
  rw [getD_of (by rw [outs_len]; exact hk)]
  simp [outs]

theorem ins_mk' {a p : Int × Int} (ha : okS a = true) (hp : okS p = true) (h1 : p.1 ≤ a.1) (h2 : a.2 ≤ p.2) : insideS a p = true := by
  unfold insideS
  rw [ha, hp]
  simp [h1, h2]
/-- What the law asks of a box and one of its spans that is cut. -/
structure HalvesAt (L : List (Int × Int)) (xs : List Int) (n : Nat) (low high : List (Int × Int)) : Prop where
  halve : halveS L n = ((low, high), 0)
  hull : pairsS hullS low high = (L, 0)
  meet : (pairsS meetS low high).2 = 5
  inLow : allS insideS low L = true
  inHigh : allS insideS high L = true
  one : boxHasS low xs ≠ boxHasS high xs
  len1 : low.length = L.length
  len2 : high.length = L.length

theorem halves_law {L : List (Int × Int)} {xs : List Int} {n : Nat} (h8 : L.length ≤ 8) (hok : ∀ k, k < L.length → okS (L.getD k (0, 0)) = true) (hn : n < L.length) (hne : (L.getD n (0, 0)).1 ≠ (L.getD n (0, 0)).2)
    (hx : xs.length = L.length) (hin : ∀ k, k < L.length → (L.getD k (0, 0)).1 ≤ xs.getD k 0 ∧ xs.getD k 0 ≤ (L.getD k (0, 0)).2) : ∃ low high, HalvesAt L xs n low high := by
  obtain ⟨m, hm⟩ : ∃ m, ((L.getD n (0, 0)).1 + (L.getD n (0, 0)).2) / 2 = m := ⟨_, rfl⟩
  have hb := okS_bd (hok n hn)
  have m1 : (L.getD n (0, 0)).1 ≤ m := by omega
  have m2 : m + 1 ≤ (L.getD n (0, 0)).2 := by omega
  have hcL : checkB L = 0 := checkB_of h8 hok
  have g1 : ∀ k, (L.set n ((L.getD n (0, 0)).1, m)).getD k (0, 0) = if n = k then ((L.getD n (0, 0)).1, m) else L.getD k (0, 0) := fun k => getD_set hn
  have g2 : ∀ k, (L.set n (m + 1, (L.getD n (0, 0)).2)).getD k (0, 0) = if n = k then (m + 1, (L.getD n (0, 0)).2) else L.getD k (0, 0) := fun k => getD_set hn
  have hhalve : halveS L n = ((L.set n ((L.getD n (0, 0)).1, m), L.set n (m + 1, (L.getD n (0, 0)).2)), 0) := by
    unfold halveS
    rw [if_neg (by simp [hcL]), if_neg (by omega), Int.toNat_natCast, if_neg hne, hm]
  have l1 : (L.set n ((L.getD n (0, 0)).1, m)).length = L.length := List.length_set
  have l2 : (L.set n (m + 1, (L.getD n (0, 0)).2)).length = L.length := List.length_set
  generalize L.set n ((L.getD n (0, 0)).1, m) = low at *
  generalize L.set n (m + 1, (L.getD n (0, 0)).2) = high at *
  have o1 : ∀ k, k < low.length → okS (low.getD k (0, 0)) = true := by
    intro k hk
    rw [g1]
    split
    · exact okS_mk (by omega) (by omega) (by omega)
    · exact hok k (by omega)
  have o2 : ∀ k, k < high.length → okS (high.getD k (0, 0)) = true := by
    intro k hk
    rw [g2]
    split
    · exact okS_mk (by omega) (by omega) (by omega)
    · exact hok k (by omega)
  have c1 : checkB low = 0 := checkB_of (by omega) o1
  have c2 : checkB high = 0 := checkB_of (by omega) o2
  have hpair : ∀ g : SpF, pairsS g low high = if firstErr g low high = 0 then (outs g low high low.length, 0) else ([], firstErr g low high) := by
    intro g
    unfold pairsS
    rw [if_neg (by omega), if_neg (fun h => h ⟨all_of o1, all_of o2⟩), if_neg (fun h => h (by omega))]
  have hh : ∀ k, k < L.length → hullS (low.getD k (0, 0)) (high.getD k (0, 0)) = (L.getD k (0, 0), 0) := by
    intro k hk
    have p1 := o1 k (by omega)
    have p2 := o2 k (by omega)
    rw [hullS_yes (by rw [p1, p2]; rfl)]
    rw [g1, g2]
    by_cases e : n = k
    · subst e
      simp only [if_true]
      have e1 : min (L.getD n (0, 0)).1 (m + 1) = (L.getD n (0, 0)).1 := by omega
      have e2 : max m (L.getD n (0, 0)).2 = (L.getD n (0, 0)).2 := by omega
      rw [e1, e2]
    · simp only [if_neg e]
      have e1 : min (L.getD k (0, 0)).1 (L.getD k (0, 0)).1 = (L.getD k (0, 0)).1 := by omega
      have e2 : max (L.getD k (0, 0)).2 (L.getD k (0, 0)).2 = (L.getD k (0, 0)).2 := by omega
      rw [e1, e2]
  refine ⟨low, high, hhalve, ?_, ?_, ?_, ?_, ?_, l1, l2⟩
  · rw [hpair, firstErr_none (fun j hj => by unfold gAt; rw [hh j (by omega)]), if_pos rfl]
    refine Prod.ext ?_ rfl
    refine list_of (by rw [outs_len]; exact l1) fun k hk => ?_
    rw [outs_len] at hk
    rw [outs_get _ _ _ _ _ hk]
    unfold gAt
    rw [hh k (by omega)]
  · have hmt : ∀ j, j < n → (gAt meetS low high j).2 = 0 := by
      intro j hj
      have p1 := o1 j (by omega)
      have p2 := o2 j (by omega)
      have hb := okS_bd (hok j (by omega))
      unfold gAt
      rw [g1] at p1
      rw [g2] at p2
      rw [g1, g2]
      rw [if_neg (by omega)] at p1 p2
      rw [if_neg (by omega), if_neg (by omega)]
      rw [meetS_yes (by rw [p1]; rfl) (by omega)]
    have hmn : (gAt meetS low high n).2 = 5 := by
      have p1 := o1 n (by omega)
      have p2 := o2 n (by omega)
      unfold gAt
      rw [g1] at p1
      rw [g2] at p2
      rw [g1, g2]
      simp only [if_true] at p1 p2 ⊢
      rw [meetS_none (by rw [p1, p2]; rfl) (by dsimp only; omega)]
    have hfe : firstErr meetS low high = 5 := by rw [firstErr_at (k := n) (by omega) hmt (by rw [hmn]; decide), hmn]
    rw [hpair, hfe, if_neg (by decide)]
  · unfold allS
    refine decide_eq_true ⟨c1, hcL, l1, fun k hk => ?_⟩
    have p1 := o1 k hk
    have hb := okS_bd (hok k (by omega))
    refine ins_mk' p1 (hok k (by omega)) ?_ ?_ <;> rw [g1] <;> split
    · rename_i e; subst e; dsimp only; omega
    · omega
    · rename_i e; subst e; dsimp only; omega
    · omega
  · unfold allS
    refine decide_eq_true ⟨c2, hcL, l2, fun k hk => ?_⟩
    have p1 := o2 k hk
    refine ins_mk' p1 (hok k (by omega)) ?_ ?_ <;> rw [g2] <;> split
    · rename_i e; subst e; dsimp only; omega
    · omega
    · rename_i e; subst e; dsimp only; omega
    · omega
  · have b1 : boxHasS low xs = decide (xs.getD n 0 ≤ m) := by
      unfold boxHasS
      rw [decide_eq_decide]
      constructor
      · rintro ⟨_, _, h⟩
        have := h n (by omega)
        rw [g1, if_pos rfl] at this
        unfold hasS at this
        simp only [Bool.and_eq_true, decide_eq_true_eq] at this
        exact this.2
      · intro h
        refine ⟨by omega, c1, fun k hk => ?_⟩
        have p1 := o1 k hk
        have hi := hin k (by omega)
        unfold hasS
        rw [p1, Bool.true_and, Bool.and_eq_true, decide_eq_true_eq, decide_eq_true_eq, g1]
        split
        · rename_i e; subst e; dsimp only; omega
        · exact hi
    have b2 : boxHasS high xs = decide (m + 1 ≤ xs.getD n 0) := by
      unfold boxHasS
      rw [decide_eq_decide]
      constructor
      · rintro ⟨_, _, h⟩
        have := h n (by omega)
        rw [g2, if_pos rfl] at this
        unfold hasS at this
        simp only [Bool.and_eq_true, decide_eq_true_eq] at this
        exact this.1.2
      · intro h
        refine ⟨by omega, c2, fun k hk => ?_⟩
        have p1 := o2 k hk
        have hi := hin k (by omega)
        unfold hasS
        rw [p1, Bool.true_and, Bool.and_eq_true, decide_eq_true_eq, decide_eq_true_eq, g2]
        split
        · rename_i e; subst e; dsimp only; omega
        · exact hi
    rw [b1, b2]
    by_cases h : xs.getD n 0 ≤ m
    · rw [decide_eq_true h, decide_eq_false (by omega)]; decide
    · rw [decide_eq_false h, decide_eq_true (by omega)]; decide

end Go.Proofs.Ytngnehlmbipabaa

/-
  The walks of Round, here and in the reference.
-/
set_option linter.unusedSimpArgs false
set_option linter.unusedVariables false
namespace Go.Proofs.Ytngnehlmbipabaa
open Go.RowKit

theorem rnd_up (q r d : Int) (hr : 0 ≤ r) (hrd : r < d) : q + 2 * r / d = q + (if d ≤ 2 * r then 1 else 0) := by
  split
  · have : 2 * r / d = 1 := by
      rw [Int.ediv_eq_iff_of_pos (by omega)]; omega
    omega
  · rw [Int.ediv_eq_zero_of_lt (by omega) (by omega)]
theorem rnd_down (r d : Int) (hr : 0 ≤ r) (hrd : r < d) : (2 * r + d - 1) / d - 1 + (if (r == 0) = true then 1 else 0) = (if d < 2 * r then 1 else 0) := by
  by_cases h0 : r = 0
  · subst h0
    have h1 : (2 * 0 + d - 1) / d = 0 := Int.ediv_eq_zero_of_lt (by omega) (by omega)
    have h2 : ¬ d < 2 * 0 := by omega
    rw [h1, if_neg h2]; rfl
  have hb : (r == 0) = false := by simpa using h0
  rw [hb]
  by_cases h2 : d < 2 * r
  · have h1 : (2 * r + d - 1) / d = 2 := by
      rw [Int.ediv_eq_iff_of_pos (by omega)]; omega
    rw [h1, if_pos h2]; rfl
  · have h1 : (2 * r + d - 1) / d = 1 := by
      rw [Int.ediv_eq_iff_of_pos (by omega)]; omega
    rw [h1, if_neg h2]; rfl

/-- The reference's rounding, by its own tests. -/
def rndR (x n d : Int) : Int :=
  if (decide (x < 0) == decide (n < 0)) || (x == 0) || (n == 0) then Pl.dvq x.natAbs n.natAbs d + (if d ≤ 2 * Pl.dvr x.natAbs n.natAbs d then 1 else 0)
  else -(Pl.dvq x.natAbs n.natAbs d + (if d < 2 * Pl.dvr x.natAbs n.natAbs d then 1 else 0))
theorem rndR_eq (x n d : Int) : rndR x n d = rnd x n d := by
  have h : ((decide (x < 0) == decide (n < 0)) || (x == 0) || (n == 0)) = true ↔ 0 ≤ sg x * sg n := by
    unfold sg
    by_cases h1 : x < 0 <;> by_cases h2 : n < 0 <;> by_cases h4 : 0 < x <;> by_cases h5 : 0 < n <;> simp [h1, h2, h4, h5] <;> omega
  unfold rndR rnd
  by_cases hb : ((decide (x < 0) == decide (n < 0)) || (x == 0) || (n == 0)) = true
  · rw [if_pos hb, if_pos (h.1 hb)]
  · rw [if_neg hb, if_neg (fun c => hb (h.2 c))]

end Go.Proofs.Ytngnehlmbipabaa
