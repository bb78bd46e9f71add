/-
  The walk of Halve.
-/
import Derived.Test.YtolnbblikfpnbaaDoorG3CurveTexts
import Derived.Test.YtolnbblikfpnbaaDoorG2CurveTexts
set_option linter.unusedSimpArgs false
set_option linter.unusedVariables false
namespace Go.Proofs.YtolnbblikfpnbaaDoor
open Go.RowKit

/-- What Halve returns. -/
def halveS (l : List (Int × Int)) (i : Int) : (List (Int × Int) × List (Int × Int)) × Int :=
  if checkB l ≠ 0 then (([], []), checkB l) else if i < 0 ∨ (l.length : Int) ≤ i then (([], []), 3)
  else if (l.getD i.toNat (0, 0)).1 = (l.getD i.toNat (0, 0)).2 then (([], []), 5)
  else ((l.set i.toNat ((l.getD i.toNat (0, 0)).1, ((l.getD i.toNat (0, 0)).1 + (l.getD i.toNat (0, 0)).2) / 2), l.set i.toNat (((l.getD i.toNat (0, 0)).1 + (l.getD i.toNat (0, 0)).2) / 2 + 1, (l.getD i.toNat (0, 0)).2)), 0)

end Go.Proofs.YtolnbblikfpnbaaDoor

/-
  The walks of pairs over Meet and Hull, BoxMeet, BoxHull.
-/
set_option linter.unusedSimpArgs false
set_option linter.unusedVariables false
namespace Go.Proofs.YtolnbblikfpnbaaDoor
open Go.RowKit

abbrev SpF := Int × Int → Int × Int → (Int × Int) × Int
def gAt (g : SpF) (l m : List (Int × Int)) (k : Nat) : (Int × Int) × Int := g (l.getD k (0, 0)) (m.getD k (0, 0))
def firstErr (g : SpF) (l m : List (Int × Int)) : Int := match (List.range l.length).find? (fun k => decide ((gAt g l m k).2 ≠ 0)) with | some k => (gAt g l m k).2 | none => 0
def outs (g : SpF) (l m : List (Int × Int)) (n : Nat) : List (Int × Int) := (List.range n).map fun k => (gAt g l m k).1
/-- What pairs returns. -/
def pairsS (g : SpF) (l m : List (Int × Int)) : List (Int × Int) × Int :=
  if 8 < max l.length m.length then ([], 6) else if ¬ (l.all okS = true ∧ m.all okS = true) then ([], 2) else if l.length ≠ m.length then ([], 20)
  else if firstErr g l m = 0 then (outs g l m l.length, 0) else ([], firstErr g l m)
theorem firstErr_at {g : SpF} {l m : List (Int × Int)} {k : Nat} (hk : k < l.length) (h0 : ∀ j, j < k → (gAt g l m j).2 = 0) (h1 : (gAt g l m k).2 ≠ 0) : firstErr g l m = (gAt g l m k).2 := by
  have : (List.range l.length).find? (fun k => decide ((gAt g l m k).2 ≠ 0)) = some k := by
    rw [List.find?_range_eq_some]
    refine ⟨by simpa using h1, by simpa using hk, fun j hj => ?_⟩
    simp [h0 j hj]
  unfold firstErr
  rw [this]
theorem firstErr_none {g : SpF} {l m : List (Int × Int)} (h0 : ∀ j, j < l.length → (gAt g l m j).2 = 0) : firstErr g l m = 0 := by
  have : (List.range l.length).find? (fun k => decide ((gAt g l m k).2 ≠ 0)) = none := by
    rw [List.find?_eq_none]
    intro k hk
    simp [h0 k (by simpa using hk)]
  unfold firstErr
  rw [this]
theorem outs_len (g : SpF) (l m : List (Int × Int)) (n : Nat) : (outs g l m n).length = n := by simp [outs]
theorem outs_succ (g : SpF) (l m : List (Int × Int)) (n : Nat) : outs g l m (n + 1) = outs g l m n ++ [(gAt g l m n).1] := by simp [outs, List.range_succ]

end Go.Proofs.YtolnbblikfpnbaaDoor

/-
  The plain law of QuantityHalves.
-/
set_option linter.unusedSimpArgs false
set_option linter.unusedVariables false
namespace Go.Proofs.YtolnbblikfpnbaaDoor
open Go.RowKit

theorem getD_of {l : List (Int × Int)} {k : Nat} (hk : k < l.length) : l.getD k (0, 0) = l[k] := by simp [List.getD_eq_getElem?_getD, List.getElem?_eq_getElem hk]
theorem checkB_of {l : List (Int × Int)} (h8 : l.length ≤ 8) (h : ∀ k, k < l.length → okS (l.getD k (0, 0)) = true) : checkB l = 0 := by
  refine checkB_ok.2 ⟨h8, ?_⟩
  rw [List.all_eq_true]
  intro s hs
  obtain ⟨k, hk, rfl⟩ := List.getElem_of_mem hs
  rw [← getD_of hk]
  exact h k hk
theorem all_of {l : List (Int × Int)} (h : ∀ k, k < l.length → okS (l.getD k (0, 0)) = true) : l.all okS = true := by
  rw [List.all_eq_true]
  intro s hs
  obtain ⟨k, hk, rfl⟩ := List.getElem_of_mem hs
  rw [← getD_of hk]
  exact h k hk
theorem list_of {l m : List (Int × Int)} (hl : l.length = m.length) (h : ∀ k, k < l.length → l.getD k (0, 0) = m.getD k (0, 0)) : l = m :=
  List.ext_getElem hl fun k h1 h2 => by rw [← getD_of h1, ← getD_of h2]; exact h k h1
theorem outs_get (g : SpF) (l m : List (Int × Int)) (n k : Nat) (hk : k < n) : (outs g l m n).getD k (0, 0) = (gAt g l m k).1 := by
  rw [getD_of (by rw [outs_len]; exact hk)]
  simp [outs]

theorem ins_mk' {a p : Int × Int} (ha : okS a = true) (hp : okS p = true) (h1 : p.1 ≤ a.1) (h2 : a.2 ≤ p.2) : insideS a p = true := by
  unfold insideS
  rw [ha, hp]
  simp [h1, h2]
/-- What the law asks of a box and one of its spans that is cut. -/
structure HalvesAt (L : List (Int × Int)) (xs : List Int) (n : Nat) (low high : List (Int × Int)) : Prop where
  halve : halveS L n = ((low, high), 0)
  hull : pairsS hullS low high = (L, 0)
  meet : (pairsS meetS low high).2 = 5
  inLow : allS insideS low L = true
  inHigh : allS insideS high L = true
  one : boxHasS low xs ≠ boxHasS high xs
  len1 : low.length = L.length
  len2 : high.length = L.length

theorem halves_law {L : List (Int × Int)} {xs : List Int} {n : Nat} (h8 : L.length ≤ 8) (hok : ∀ k, k < L.length → okS (L.getD k (0, 0)) = true) (hn : n < L.length) (hne : (L.getD n (0, 0)).1 ≠ (L.getD n (0, 0)).2)
    (hx : xs.length = L.length) (hin : ∀ k, k < L.length → (L.getD k (0, 0)).1 ≤ xs.getD k 0 ∧ xs.getD k 0 ≤ (L.getD k (0, 0)).2) : ∃ low high, HalvesAt L xs n low high := by
  obtain ⟨m, hm⟩ : ∃ m, ((L.getD n (0, 0)).1 + (L.getD n (0, 0)).2) / 2 = m := ⟨_, rfl⟩
  have hb := okS_bd (hok n hn)
  have m1 : (L.getD n (0, 0)).1 ≤ m := by omega
  have m2 : m + 1 ≤ (L.getD n (0, 0)).2 := by omega
  have hcL : checkB L = 0 := checkB_of h8 hok
  have g1 : ∀ k, (L.set n ((L.getD n (0, 0)).1, m)).getD k (0, 0) = if n = k then ((L.getD n (0, 0)).1, m) else L.getD k (0, 0) := fun k => getD_set hn
  have g2 : ∀ k, (L.set n (m + 1, (L.getD n (0, 0)).2)).getD k (0, 0) = if n = k then (m + 1, (L.getD n (0, 0)).2) else L.getD k (0, 0) := fun k => getD_set hn
  have hhalve : halveS L n = ((L.set n ((L.getD n (0, 0)).1, m), L.set n (m + 1, (L.getD n (0, 0)).2)), 0) := by
    unfold halveS
    rw [if_neg (by simp [hcL]), if_neg (by omega), Int.toNat_natCast, if_neg hne, hm]
  have l1 : (L.set n ((L.getD n (0, 0)).1, m)).length = L.length := List.length_set
  have l2 : (L.set n (m + 1, (L.getD n (0, 0)).2)).length = L.length := List.length_set
  generalize L.set n ((L.getD n (0, 0)).1, m) = low at *
  generalize L.set n (m + 1, (L.getD n (0, 0)).2) = high at *
  have o1 : ∀ k, k < low.length → okS (low.getD k (0, 0)) = true := by
    intro k hk
    rw [g1]
    split
    · exact okS_mk (by omega) (by omega) (by omega)
    · exact hok k (by omega)
  have o2 : ∀ k, k < high.length → okS (high.getD k (0, 0)) = true := by
    intro k hk
    rw [g2]
    split
    · exact okS_mk (by omega) (by omega) (by omega)
    · exact hok k (by omega)
  have c1 : checkB low = 0 := checkB_of (by omega) o1
  have c2 : checkB high = 0 := checkB_of (by omega) o2
  have hpair : ∀ g : SpF, pairsS g low high = if firstErr g low high = 0 then (outs g low high low.length, 0) else ([], firstErr g low high) := by
    intro g
    unfold pairsS
    rw [if_neg (by omega), if_neg (fun h => h ⟨all_of o1, all_of o2⟩), if_neg (fun h => h (by omega))]
  have hh : ∀ k, k < L.length → hullS (low.getD k (0, 0)) (high.getD k (0, 0)) = (L.getD k (0, 0), 0) := by
    intro k hk
    have p1 := o1 k (by omega)
    have p2 := o2 k (by omega)
    rw [hullS_yes (by rw [p1, p2]; rfl)]
    rw [g1, g2]
    by_cases e : n = k
    · subst e
      simp only [if_true]
      have e1 : min (L.getD n (0, 0)).1 (m + 1) = (L.getD n (0, 0)).1 := by omega
      have e2 : max m (L.getD n (0, 0)).2 = (L.getD n (0, 0)).2 := by omega
      rw [e1, e2]
    · simp only [if_neg e]
      have e1 : min (L.getD k (0, 0)).1 (L.getD k (0, 0)).1 = (L.getD k (0, 0)).1 := by omega
      have e2 : max (L.getD k (0, 0)).2 (L.getD k (0, 0)).2 = (L.getD k (0, 0)).2 := by omega
      rw [e1, e2]
  refine ⟨low, high, hhalve, ?_, ?_, ?_, ?_, ?_, l1, l2⟩
  · rw [hpair, firstErr_none (fun j hj => by unfold gAt; rw [hh j (by omega)]), if_pos rfl]
    refine Prod.ext ?_ rfl
    refine list_of (by rw [outs_len]; exact l1) fun k hk => ?_
    rw [outs_len] at hk
    rw [outs_get _ _ _ _ _ hk]
    unfold gAt
    rw [hh k (by omega)]
  · have hmt : ∀ j, j < n → (gAt meetS low high j).2 = 0 := by
      intro j hj
      have p1 := o1 j (by omega)
      have p2 := o2 j (by omega)
      have hb := okS_bd (hok j (by omega))
      unfold gAt
      rw [g1] at p1
      rw [g2] at p2
      rw [g1, g2]
      rw [if_neg (by omega)] at p1 p2
      rw [if_neg (by omega), if_neg (by omega)]
      rw [meetS_yes (by rw [p1]; rfl) (by omega)]
    have hmn : (gAt meetS low high n).2 = 5 := by
      have p1 := o1 n (by omega)
      have p2 := o2 n (by omega)
      unfold gAt
      rw [g1] at p1
      rw [g2] at p2
      rw [g1, g2]
      simp only [if_true] at p1 p2 ⊢
      rw [meetS_none (by rw [p1, p2]; rfl) (by dsimp only; omega)]
    have hfe : firstErr meetS low high = 5 := by rw [firstErr_at (k := n) (by omega) hmt (by rw [hmn]; decide), hmn]
    rw [hpair, hfe, if_neg (by decide)]
  · unfold allS
    refine decide_eq_true ⟨c1, hcL, l1, fun k hk => ?_⟩
    have p1 := o1 k hk
    have hb := okS_bd (hok k (by omega))
    refine ins_mk' p1 (hok k (by omega)) ?_ ?_ <;> rw [g1] <;> split
    · rename_i e; subst e; dsimp only; omega
    · omega
    · rename_i e; subst e; dsimp only; omega
    · omega
  · unfold allS
    refine decide_eq_true ⟨c2, hcL, l2, fun k hk => ?_⟩
    have p1 := o2 k hk
    refine ins_mk' p1 (hok k (by omega)) ?_ ?_ <;> rw [g2] <;> split
    · rename_i e; subst e; dsimp only; omega
    · omega
    · rename_i e; subst e; dsimp only; omega
    · omega
  · have b1 : boxHasS low xs = decide (xs.getD n 0 ≤ m) := by
      unfold boxHasS
      rw [decide_eq_decide]
      constructor
      · rintro ⟨_, _, h⟩
        have := h n (by omega)
        rw [g1, if_pos rfl] at this
        unfold hasS at this
        simp only [Bool.and_eq_true, decide_eq_true_eq] at this
        exact this.2
      · intro h
        refine ⟨by omega, c1, fun k hk => ?_⟩
        have p1 := o1 k hk
        have hi := hin k (by omega)
        unfold hasS
        rw [p1, Bool.true_and, Bool.and_eq_true, decide_eq_true_eq, decide_eq_true_eq, g1]
        split
        · rename_i e; subst e; dsimp only; omega
        · exact hi
    have b2 : boxHasS high xs = decide (m + 1 ≤ xs.getD n 0) := by
      unfold boxHasS
      rw [decide_eq_decide]
      constructor
      · rintro ⟨_, _, h⟩
        have := h n (by omega)
        rw [g2, if_pos rfl] at this
        unfold hasS at this
        simp only [Bool.and_eq_true, decide_eq_true_eq] at this
        exact this.1.2
      · intro h
        refine ⟨by omega, c2, fun k hk => ?_⟩
        have p1 := o2 k hk
        have hi := hin k (by omega)
        unfold hasS
        rw [p1, Bool.true_and, Bool.and_eq_true, decide_eq_true_eq, decide_eq_true_eq, g2]
        split
        · rename_i e; subst e; dsimp only; omega
        · exact hi
    rw [b1, b2]
    by_cases h : xs.getD n 0 ≤ m
    · rw [decide_eq_true h, decide_eq_false (by omega)]; decide
    · rw [decide_eq_false h, decide_eq_true (by omega)]; decide

end Go.Proofs.YtolnbblikfpnbaaDoor

/-
  The walks of Scale, Mul, Div, Square.
-/
set_option linter.unusedSimpArgs false
set_option linter.unusedVariables false
namespace Go.Proofs.YtolnbblikfpnbaaDoor
open Go.RowKit

/-- The span of one number x n / d. -/
def rt (x n d : Int) : Int × Int := (dn x n d, up x n d)
def scaleS (s : Int × Int) (n d : Int) : (Int × Int) × Int :=
  if okS s = true ∧ isQ n = true ∧ isDen d = true then spanS (foldS (rt s.1 n d) [rt s.2 n d]) else E2
def mulS (a b : Int × Int) (d : Int) : (Int × Int) × Int :=
  if (okS a && okS b) = true ∧ isDen d = true then spanS (foldS (rt a.1 b.1 d) [rt a.1 b.2 d, rt a.2 b.1 d, rt a.2 b.2 d]) else E2
def divS (a b : Int × Int) (n : Int) : (Int × Int) × Int :=
  if (okS a && okS b) = true ∧ isQ n = true then (if b.1 ≤ 0 ∧ 0 ≤ b.2 then ((0, 0), 9) else spanS (foldS (rt a.1 n b.1) [rt a.1 n b.2, rt a.2 n b.1, rt a.2 n b.2])) else E2
/-- The number of a span that is nearest to 0. -/
def mid0 (s : Int × Int) : Int := min (max s.1 0) s.2
def squareS (s : Int × Int) (d : Int) : (Int × Int) × Int :=
  if okS s = true ∧ isDen d = true then spanS (foldS (rt (mid0 s) (mid0 s) d) [rt s.1 s.1 d, rt s.2 s.2 d]) else E2

set_option maxHeartbeats 1000000 in
set_option maxRecDepth 20000 in
theorem Mul_any (a b : Int × Int) (d : Int) (w : World) : Calls Tryd.prog 16 #[.agg #[.int .i64 a.1, .int .i64 a.2], .agg #[.int .i64 b.1, .int .i64 b.2], .int .i64 d] w fun e w' => e = .returned (.tuple #[.agg #[.int .i64 (mulS a b d).1.1, .int .i64 (mulS a b d).1.2], .int .i64 (mulS a b d).2]) ∧ Below w.heap.size w w' := by
  cases h : (okS a && okS b)
  · rw [show mulS a b d = E2 from by simp [mulS, h]]
    obtain ⟨a1, a2⟩ := a
    obtain ⟨b1, b2⟩ := b
    go_enter Tryd.func16, Tryd.ntmps16
    go_wp2_with (first | (go_at_call 18; refine (valid_twoN _ _ _ _ _ _ _ _ _ (by simp)).mono ?_; rintro e w1 ⟨rfl, hb⟩; obtain ⟨hcw1, hfw1⟩ := bcell hb; have hzw1 := Below.size hb; (try simp at hzw1); have hzw10 : w.heap.size < w1.heap.size := (by omega); have hzw11 : w.heap.size + 1 < w1.heap.size := (by omega); have hzw12 : w.heap.size + 1 + 1 < w1.heap.size := (by omega)) | (go_at_call 30; refine (is_any _ _).mono ?_; rintro e w' ⟨rfl, rfl⟩) | (go_at_call 31; refine (below_any _ _).mono ?_; rintro e w' ⟨rfl, rfl⟩))
    exact bodyPost_ret (v := .tuple #[.agg #[.int .i64 (0), .int .i64 (0)], .int .i64 2]) (by simp only [results, Tryd.results16]; go_simp) rfl ⟨rfl, (by repeat' (first | exact Below.refl _ _ | assumption | apply bDrewN | apply bDrew | apply bAlloc | (refine bSet ?_ ?_ _) | (refine bStep ?_ (by assumption)) | omega | (simp <;> omega)))⟩
  cases hd : isDen d
  · rw [show mulS a b d = E2 from by simp [mulS, hd]]
    obtain ⟨a1, a2⟩ := a
    obtain ⟨b1, b2⟩ := b
    go_enter Tryd.func16, Tryd.ntmps16
    go_wp2_with (first | (go_at_call 18; refine (valid_twoN _ _ _ _ _ _ _ _ _ (by simp)).mono ?_; rintro e w1 ⟨rfl, hb⟩; obtain ⟨hcw1, hfw1⟩ := bcell hb; have hzw1 := Below.size hb; (try simp at hzw1); have hzw10 : w.heap.size < w1.heap.size := (by omega); have hzw11 : w.heap.size + 1 < w1.heap.size := (by omega); have hzw12 : w.heap.size + 1 + 1 < w1.heap.size := (by omega)) | (go_at_call 30; refine (is_any _ _).mono ?_; rintro e w' ⟨rfl, rfl⟩) | (go_at_call 31; refine (below_any _ _).mono ?_; rintro e w' ⟨rfl, rfl⟩))
    exact bodyPost_ret (v := .tuple #[.agg #[.int .i64 (0), .int .i64 (0)], .int .i64 2]) (by simp only [results, Tryd.results16]; go_simp) rfl ⟨rfl, (by repeat' (first | exact Below.refl _ _ | assumption | apply bDrewN | apply bDrew | apply bAlloc | (refine bSet ?_ ?_ _) | (refine bStep ?_ (by assumption)) | omega | (simp <;> omega)))⟩
  rw [show mulS a b d = spanS (foldS (rt a.1 b.1 d) [rt a.1 b.2 d, rt a.2 b.1 d, rt a.2 b.2 d]) from if_pos ⟨h, hd⟩]
  have h' : okS a = true ∧ okS b = true := by simpa using h
  obtain ⟨h1, h2, h3⟩ := okS_bd h'.1
  obtain ⟨h4, h5, h6⟩ := okS_bd h'.2
  clear h'
  obtain ⟨q3, q4⟩ := (isDen_iff _).1 hd
  obtain ⟨a1, a2⟩ := a
  obtain ⟨b1, b2⟩ := b
  simp only [rt]
  dsimp only at *
  have H0 := Lib.hid (fun w => ratio_any a1 b1 d w (by omega) (by omega) (by omega) (by omega) (by omega) (by omega) (by omega))
  have H1 := Lib.hid (fun w => ratio_any a1 b2 d w (by omega) (by omega) (by omega) (by omega) (by omega) (by omega) (by omega))
  have H2 := Lib.hid (fun w => ratio_any a2 b1 d w (by omega) (by omega) (by omega) (by omega) (by omega) (by omega) (by omega))
  have H3 := Lib.hid (fun w => ratio_any a2 b2 d w (by omega) (by omega) (by omega) (by omega) (by omega) (by omega) (by omega))
  clear h1 h2 h3 h4 h5 h6 q3 q4
  generalize dn a1 b1 d = l0 at *
  generalize up a1 b1 d = u0 at *
  generalize dn a1 b2 d = l1 at *
  generalize up a1 b2 d = u1 at *
  generalize dn a2 b1 d = l2 at *
  generalize up a2 b1 d = u2 at *
  generalize dn a2 b2 d = l3 at *
  generalize up a2 b2 d = u3 at *
  generalize hS0 : spanS (foldS (l0, u0) [(l1, u1), (l2, u2), (l3, u3)]) = S at *
  have HS0 := Lib.hid hS0
  clear hS0
  go_enter Tryd.func16, Tryd.ntmps16
  go_wp2_with (first | (go_at_call 18; refine (valid_twoN _ _ _ _ _ _ _ _ _ (by simp)).mono ?_; rintro e w1 ⟨rfl, hb⟩; obtain ⟨hcw1, hfw1⟩ := bcell hb; have hzw1 := Below.size hb; (try simp at hzw1); have hzw10 : w.heap.size < w1.heap.size := (by omega); have hzw11 : w.heap.size + 1 < w1.heap.size := (by omega); have hzw12 : w.heap.size + 1 + 1 < w1.heap.size := (by omega)) | (go_at_call 30; refine (is_any _ _).mono ?_; rintro e w' ⟨rfl, rfl⟩) | (go_at_call 31; refine (below_any _ _).mono ?_; rintro e w' ⟨rfl, rfl⟩))
  have hS : Box2 w w.heap.size (w.heap.size + 1) (w.heap.size + 1 + 1) (.int .i64 a1) (.int .i64 a2) (.int .i64 b1) (.int .i64 b2) w1 := by
    refine ⟨?_, ?_, ?_, ?_, ⟨⟨.int .i64 0, .int .i64 0, ?_, ?_⟩, ?_, ?_⟩, (by repeat' (first | exact Below.refl _ _ | assumption | apply bDrewN | apply bDrew | apply bAlloc | (refine bSet ?_ ?_ _) | (refine bStep ?_ (by assumption)) | omega | (simp <;> omega)))⟩ <;> go_simp
  have n1 : w.heap.size ≠ w.heap.size + 1 + 1 := by omega
  have n2 : w.heap.size + 1 ≠ w.heap.size + 1 + 1 := by omega
  have n3 : w.heap.size ≤ w.heap.size + 1 + 1 := by omega
  have N1 := Lib.hid n1
  have N2 := Lib.hid n2
  have N3 := Lib.hid n3
  clear n1 n2 n3
  clear hb hcw1 hfw1 hzw1 hzw10 hzw11 hzw12
  go_region_held3 (fun W => W.cell? ⟨w.heap.size, 0, none⟩ = some (.int .i64 a1) ∧ W.cell? ⟨w.heap.size, 1, none⟩ = some (.int .i64 a2) ∧ W.cell? ⟨w.heap.size + 1, 0, none⟩ = some (.int .i64 b1) ∧ W.cell? ⟨w.heap.size + 1, 1, none⟩ = some (.int .i64 b2) ∧ ResBox (w.heap.size + 1 + 1) W ∧ Below w.heap.size w W) ((first | exact Box2.drew hS | exact Box2.step (by assumption) (by assumption) | exact Box2.alloc (by assumption) _ | exact Box2.set (by assumption) N3.out N1.out N2.out _ _)) ((first | (go_at_call 35; (with_reducible refine (H0.out _).mono ?_); rintro e w2 ⟨rfl, hb2⟩) | (go_at_call 35; (with_reducible refine (H1.out _).mono ?_); rintro e w2 ⟨rfl, hb2⟩) | (go_at_call 35; (with_reducible refine (H2.out _).mono ?_); rintro e w2 ⟨rfl, hb2⟩) | (go_at_call 35; (with_reducible refine (H3.out _).mono ?_); rintro e w2 ⟨rfl, hb2⟩) | (go_at_call 34; refine (around_fourN _ _ _ _ _ _ _ _ _ _ _ _ (by simp)).mono ?_; rw [HS0.out]; rintro e w3 ⟨rfl, hb3⟩) | (obtain ⟨_, _, _, _, ⟨⟨x0, x1, hx0, hx1⟩, hx2, hx3⟩, _⟩ := ‹_ ∧ _ ∧ _ ∧ _ ∧ ResBox _ _ ∧ _›; go_simp)))
  go_wp2
  have hB := (‹_ ∧ _ ∧ _ ∧ _ ∧ ResBox _ _ ∧ Below _ _ _›).2.2.2.2.2
  exact bodyPost_ret (v := .tuple #[.agg #[.int .i64 S.1.1, .int .i64 S.1.2], .int .i64 S.2]) (by simp only [results, Tryd.results16]; go_simp) rfl ⟨rfl, hB⟩

end Go.Proofs.YtolnbblikfpnbaaDoor

/-
  The walks of Round, here and in the reference.
-/
set_option linter.unusedSimpArgs false
set_option linter.unusedVariables false
namespace Go.Proofs.YtolnbblikfpnbaaDoor
open Go.RowKit

theorem rnd_up (q r d : Int) (hr : 0 ≤ r) (hrd : r < d) : q + 2 * r / d = q + (if d ≤ 2 * r then 1 else 0) := by
  split
  · have : 2 * r / d = 1 := by
      rw [Int.ediv_eq_iff_of_pos (by omega)]; omega
    omega
  · rw [Int.ediv_eq_zero_of_lt (by omega) (by omega)]
theorem rnd_down (r d : Int) (hr : 0 ≤ r) (hrd : r < d) : (2 * r + d - 1) / d - 1 + (if (r == 0) = true then 1 else 0) = (if d < 2 * r then 1 else 0) := by
  by_cases h0 : r = 0
  · subst h0
    have h1 : (2 * 0 + d - 1) / d = 0 := Int.ediv_eq_zero_of_lt (by omega) (by omega)
    have h2 : ¬ d < 2 * 0 := by omega
    rw [h1, if_neg h2]; rfl
  have hb : (r == 0) = false := by simpa using h0
  rw [hb]
  by_cases h2 : d < 2 * r
  · have h1 : (2 * r + d - 1) / d = 2 := by
      rw [Int.ediv_eq_iff_of_pos (by omega)]; omega
    rw [h1, if_pos h2]; rfl
  · have h1 : (2 * r + d - 1) / d = 1 := by
      rw [Int.ediv_eq_iff_of_pos (by omega)]; omega
    rw [h1, if_neg h2]; rfl

/-- The reference's rounding, by its own tests. -/
def rndR (x n d : Int) : Int :=
  if (decide (x < 0) == decide (n < 0)) || (x == 0) || (n == 0) then Pl.dvq x.natAbs n.natAbs d + (if d ≤ 2 * Pl.dvr x.natAbs n.natAbs d then 1 else 0)
  else -(Pl.dvq x.natAbs n.natAbs d + (if d < 2 * Pl.dvr x.natAbs n.natAbs d then 1 else 0))
theorem rndR_eq (x n d : Int) : rndR x n d = rnd x n d := by
  have h : ((decide (x < 0) == decide (n < 0)) || (x == 0) || (n == 0)) = true ↔ 0 ≤ sg x * sg n := by
    unfold sg
    by_cases h1 : x < 0 <;> by_cases h2 : n < 0 <;> by_cases h4 : 0 < x <;> by_cases h5 : 0 < n <;> simp [h1, h2, h4, h5] <;> omega
  unfold rndR rnd
  by_cases hb : ((decide (x < 0) == decide (n < 0)) || (x == 0) || (n == 0)) = true
  · rw [if_pos hb, if_pos (h.1 hb)]
  · rw [if_neg hb, if_neg (fun c => hb (h.2 c))]

end Go.Proofs.YtolnbblikfpnbaaDoor

/-
  The walks of the law's example, and of the law QuantityRounds.
-/
set_option linter.unusedSimpArgs false
set_option linter.unusedVariables false
namespace Go.Proofs.YtolnbblikfpnbaaDoor
open Go.RowKit

theorem ex_floor : numS (-7) 1 2 (dn (-7) 1 2) = (-4, 0) := by decide +kernel
theorem ex_mul : mulS (-2, 3) (-5, 4) 1 = ((-15, 12), 0) := by decide +kernel
theorem ex_has : hasS (-15, 12) 0 = true := by decide +kernel
theorem ex1 (w : World) : Calls Tryd.prog 15 #[.int .i64 (-7), .int .i64 1, .int .i64 2] w fun e w' => e = .returned (.tuple #[.int .i64 (-4), .int .i64 0]) ∧ ∃ k, w.drewN k = w' := by
  have h := Floor_any (-7) 1 2 w
  rw [ex_floor] at h
  exact h
theorem ex2 (w : World) : Calls Tryd.prog 16 #[.agg #[.int .i64 (-2), .int .i64 3], .agg #[.int .i64 (-5), .int .i64 4], .int .i64 1] w fun e w' => e = .returned (.tuple #[.agg #[.int .i64 (-15), .int .i64 12], .int .i64 0]) ∧ Below w.heap.size w w' := by
  have h := Mul_any (-2, 3) (-5, 4) 1 w
  rw [ex_mul] at h
  exact h
theorem ex3 (w : World) : Calls Tryd.prog 17 #[.agg #[.int .i64 (-15), .int .i64 12], .int .i64 0] w fun e w' => e = .returned (.bool true) ∧ Below w.heap.size w w' := by
  have h := Has_any (-15, 12) 0 w
  rw [ex_has] at h
  exact h

set_option maxHeartbeats 400000 in
/-- The example of every statement. -/
theorem works_any (w : World) : Calls Tryd.prog 5 #[] w fun e w' => e = .returned (.bool true) ∧ Below w.heap.size w w' := by
  go_enter Tryd.func5, Tryd.ntmps5
  go_wp2_with (first | (go_at_call 15; refine (ex1 _).mono ?_; rintro e w' ⟨rfl, k, rfl⟩) | (go_at_call 16; refine (ex2 _).mono ?_; rintro e w1 ⟨rfl, hb1⟩) | (go_at_call 17; refine (ex3 _).mono ?_; rintro e w2 ⟨rfl, hb2⟩))
  go_ret
  exact ⟨rfl, (by repeat' (first | exact Below.refl _ _ | assumption | apply bDrewN | apply bDrew | apply bAlloc | (refine bSet ?_ ?_ _) | (refine bStep ?_ (by assumption)) | omega | (simp <;> omega)))⟩

end Go.Proofs.YtolnbblikfpnbaaDoor
