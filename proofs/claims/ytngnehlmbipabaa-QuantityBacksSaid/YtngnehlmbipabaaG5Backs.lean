/-
  The plain laws of Add, Sub, Neg, Scale, Mul, Div, Square on small numbers: the fractions are all in what is returned, and its ends are needed.
-/
import Derived.Test.YtngnehlmbipabaaG4Backs
import Derived.Test.YtngnehlmbipabaaG0Backs
set_option linter.unusedSimpArgs false
set_option linter.unusedVariables false
namespace Go.Proofs.Ytngnehlmbipabaa
open Go.RowKit

theorem sg_abs (x : Int) : x = (x.natAbs : Int) * sg x := by
  unfold sg; split <;> (try split) <;> omega

/-- x between two others: the products with any number, too. -/
theorem between (y : Int) {a b x : Int} (h1 : a ≤ x) (h2 : x ≤ b) : (a * y ≤ x * y ∧ x * y ≤ b * y) ∨ (b * y ≤ x * y ∧ x * y ≤ a * y) := by
  by_cases hy : 0 ≤ y
  · exact Or.inl ⟨Int.mul_le_mul_of_nonneg_right h1 hy, Int.mul_le_mul_of_nonneg_right h2 hy⟩
  · exact Or.inr ⟨Int.mul_le_mul_of_nonpos_right h2 (by omega), Int.mul_le_mul_of_nonpos_right h1 (by omega)⟩
theorem mul_bd {x n A B : Int} (h1 : -A ≤ x) (h2 : x ≤ A) (h3 : -B ≤ n) (h4 : n ≤ B) : -(A * B) ≤ x * n ∧ x * n ≤ A * B := by
  have k1 := between n h1 h2
  have k2 := between A h3 h4
  rw [Int.neg_mul, Int.mul_comm A n] at k1
  rw [Int.neg_mul, Int.mul_comm B A] at k2
  have k3 := Int.mul_nonneg (show 0 ≤ A by omega) (show 0 ≤ B by omega)
  omega

/-- The fraction p / k is between v and v + 1. -/
theorem dn_floor {x n d : Int} (hx1 : -131072 ≤ x) (hx2 : x ≤ 131072) (hn1 : -131072 ≤ n) (hn2 : n ≤ 131072) (hd : d ≠ 0) :
    dn x n d * (d.natAbs : Int) ≤ x * n * sg d ∧ x * n * sg d < dn x n d * (d.natAbs : Int) + (d.natAbs : Int) := by
  have ex := sg_abs x
  have en := sg_abs n
  have ed := sg_abs d
  have bx := sg_bd x
  have bn := sg_bd n
  have bd := sg_bd d
  unfold dn
  have bX : 0 ≤ (x.natAbs : Int) ∧ (x.natAbs : Int) ≤ 131072 := by omega
  have bN : 0 ≤ (n.natAbs : Int) ∧ (n.natAbs : Int) ≤ 131072 := by omega
  have bD : 1 ≤ (d.natAbs : Int) := by omega
  have zx : sg x = 0 → (x.natAbs : Int) = 0 := by intro h; rw [h] at ex; omega
  have zn : sg n = 0 → (n.natAbs : Int) = 0 := by intro h; rw [h] at en; omega
  have zd : sg d ≠ 0 := by intro h; rw [h] at ed; omega
  generalize (x.natAbs : Int) = X at *
  generalize (n.natAbs : Int) = N at *
  generalize (d.natAbs : Int) = D at *
  generalize sg x = sx at *
  generalize sg n = sn at *
  generalize sg d = sd at *
  have hP : x * n * sd = (X * N) * (sx * sn * sd) := by
    rw [ex, en]; simp only [Int.mul_left_comm, Int.mul_comm]
  rw [hP]
  have hXN := mul_bd (x := X) (n := N) (A := 131072) (B := 131072) (by omega) (by omega) (by omega) (by omega)
  have hXN0 := Int.mul_nonneg bX.1 bN.1
  have hS := mul_one_bd (mul_one_bd bx bn) bd
  have hq := Int.emod_add_mul_ediv (X * N) D
  have hr1 := Int.emod_nonneg (X * N) (show D ≠ 0 by omega)
  have hr2 := Int.emod_lt_of_pos (X * N) (show 0 < D by omega)
  have hle : X * N / D ≤ X * N := Int.ediv_le_self _ hXN0
  have hlim : ¬ Pl.LIM < X * N / D := by rw [Pl.LIM_val]; omega
  unfold Pl.dvq Pl.dvr
  rw [if_neg hlim, if_neg hlim]
  have hz : sx * sn * sd = 0 → X * N = 0 := by
    intro h
    rcases Int.mul_eq_zero.1 h with h | h
    · rcases Int.mul_eq_zero.1 h with h | h
      · rw [zx h, Int.zero_mul]
      · rw [zn h, Int.mul_zero]
    · exact absurd h zd
  generalize sx * sn * sd = S at *
  rw [Int.mul_comm D] at hq
  generalize X * N = V at *
  generalize V / D = q at *
  generalize V % D = r at *
  have hc : S = 0 ∨ S = 1 ∨ S = -1 := by omega
  rcases hc with rfl | rfl | rfl
  · have := hz rfl
    have hq0 : q * D = 0 := by
      have h1 : 0 ≤ q := by
        by_cases h : 0 ≤ q
        · exact h
        · have := Int.mul_le_mul_of_nonneg_right (show q ≤ -1 by omega) (show 0 ≤ D by omega)
          omega
      have := Int.mul_nonneg h1 (show 0 ≤ D by omega)
      omega
    simp only [Int.mul_zero]
    rw [if_pos (by omega)]
    omega
  · rw [if_pos (by omega)]
    omega
  · rw [if_neg (by omega)]
    split
    · rw [Int.neg_mul, Int.add_mul]
      omega
    · rw [Int.neg_mul]
      omega
theorem up_ceil {x n d : Int} (hx1 : -131072 ≤ x) (hx2 : x ≤ 131072) (hn1 : -131072 ≤ n) (hn2 : n ≤ 131072) (hd : d ≠ 0) :
    x * n * sg d ≤ up x n d * (d.natAbs : Int) ∧ up x n d * (d.natAbs : Int) - (d.natAbs : Int) < x * n * sg d := by
  have h := dn_floor (x := -x) (n := n) (d := d) (by omega) (by omega) hn1 hn2 hd
  unfold up
  rw [Int.neg_mul, Int.neg_mul] at h
  rw [Int.neg_mul]
  omega

/-- All fractions are in a span, and both of its ends are needed. -/
def Best (S : Int × Int) (T : Int → Int → Prop) : Prop :=
  (∀ P K, T P K → 0 < K ∧ S.1 * K ≤ P ∧ P ≤ S.2 * K) ∧ (∃ P K, T P K ∧ P < S.1 * K + K) ∧ (∃ P K, T P K ∧ S.2 * K - K < P) ∧ -34359738368 ≤ S.1 ∧ S.2 ≤ 34359738368 ∧ S.1 ≤ S.2

theorem fr_bd {v K P : Int} (hK : 1 ≤ K) (h1 : v * K ≤ P) (h2 : P < v * K + K) (h3 : -17179869190 ≤ P) (h4 : P ≤ 17179869190) : -17179869190 ≤ v ∧ v ≤ 17179869190 := by
  constructor
  · by_cases h : -17179869190 ≤ v
    · exact h
    · have := Int.mul_le_mul_of_nonneg_right (show v ≤ -17179869191 by omega) (show 0 ≤ K by omega)
      omega
  · by_cases h : v ≤ 17179869190
    · exact h
    · have := Int.mul_le_mul_of_nonneg_right (show 17179869191 ≤ v by omega) (show 0 ≤ K by omega)
      omega
theorem best_one {x n d : Int} (hx1 : -131072 ≤ x) (hx2 : x ≤ 131072) (hn1 : -131072 ≤ n) (hn2 : n ≤ 131072) (hd : d ≠ 0) :
    Best (rt x n d) (fun P K => P = x * n * sg d ∧ K = (d.natAbs : Int)) := by
  have h1 := dn_floor hx1 hx2 hn1 hn2 hd
  have h2 := up_ceil hx1 hx2 hn1 hn2 hd
  have hK : 1 ≤ (d.natAbs : Int) := by omega
  have hb := mul_bd (x := x) (n := n) (A := 131072) (B := 131072) hx1 hx2 hn1 hn2
  have hb2 := mul_bd (x := x * n) (n := sg d) (A := 17179869184) (B := 1) hb.1 hb.2 (by have := sg_bd d; omega) (by have := sg_bd d; omega)
  unfold rt Best
  dsimp only
  generalize dn x n d = v at *
  generalize up x n d = u at *
  generalize x * n * sg d = P at *
  generalize (d.natAbs : Int) = K at *
  have b1 := fr_bd hK h1.1 h1.2 (by omega) (by omega)
  have b2 := fr_bd (v := u - 1) (P := P - 1) hK (by rw [Int.sub_mul]; omega) (by rw [Int.sub_mul]; omega) (by omega) (by omega)
  have b3 : v ≤ u := by
    by_cases h : v ≤ u
    · exact h
    · have := Int.mul_le_mul_of_nonneg_right (show u + 1 ≤ v by omega) (show 0 ≤ K by omega)
      rw [Int.add_mul] at this
      omega
  refine ⟨?_, ⟨P, K, ⟨rfl, rfl⟩, by omega⟩, ⟨P, K, ⟨rfl, rfl⟩, by omega⟩, by omega, by omega, b3⟩
  rintro P K ⟨rfl, rfl⟩
  omega
theorem Best.join {S R : Int × Int} {T U : Int → Int → Prop} (h : Best S T) (g : Best R U) : Best (min S.1 R.1, max S.2 R.2) (fun P K => T P K ∨ U P K) := by
  obtain ⟨h1, h2, h3, h4, h5, h6⟩ := h
  obtain ⟨g1, g2, g3, g4, g5, g6⟩ := g
  refine ⟨?_, ?_, ?_, ?_, ?_, ?_⟩ <;> dsimp only
  · intro P K hP
    have hm1 := fun hK : 0 < K => Int.mul_le_mul_of_nonneg_right (show min S.1 R.1 ≤ S.1 by omega) (Int.le_of_lt hK)
    have hm2 := fun hK : 0 < K => Int.mul_le_mul_of_nonneg_right (show min S.1 R.1 ≤ R.1 by omega) (Int.le_of_lt hK)
    have hm3 := fun hK : 0 < K => Int.mul_le_mul_of_nonneg_right (show S.2 ≤ max S.2 R.2 by omega) (Int.le_of_lt hK)
    have hm4 := fun hK : 0 < K => Int.mul_le_mul_of_nonneg_right (show R.2 ≤ max S.2 R.2 by omega) (Int.le_of_lt hK)
    rcases hP with hP | hP
    · have q := h1 P K hP
      exact ⟨q.1, Int.le_trans (hm1 q.1) q.2.1, Int.le_trans q.2.2 (hm3 q.1)⟩
    · have q := g1 P K hP
      exact ⟨q.1, Int.le_trans (hm2 q.1) q.2.1, Int.le_trans q.2.2 (hm4 q.1)⟩
  · by_cases hc : S.1 ≤ R.1
    · obtain ⟨P, K, hT, hlt⟩ := h2
      exact ⟨P, K, Or.inl hT, by rw [show min S.1 R.1 = S.1 by omega]; exact hlt⟩
    · obtain ⟨P, K, hT, hlt⟩ := g2
      exact ⟨P, K, Or.inr hT, by rw [show min S.1 R.1 = R.1 by omega]; exact hlt⟩
  · by_cases hc : R.2 ≤ S.2
    · obtain ⟨P, K, hT, hlt⟩ := h3
      exact ⟨P, K, Or.inl hT, by rw [show max S.2 R.2 = S.2 by omega]; exact hlt⟩
    · obtain ⟨P, K, hT, hlt⟩ := g3
      exact ⟨P, K, Or.inr hT, by rw [show max S.2 R.2 = R.2 by omega]; exact hlt⟩
  · omega
  · omega
  · omega
theorem Best.span {S : Int × Int} {T : Int → Int → Prop} (h : Best S T) : spanS S = (S, 0) :=
  spanS_yes ((isQ_iff _).2 (by have := h.2.2.2; omega)) ((isQ_iff _).2 (by have := h.2.2.2; omega))
theorem Best.same {S : Int × Int} {T U : Int → Int → Prop} (h : Best S T) (e : ∀ P K, T P K ↔ U P K) : Best S U := by
  have : T = U := funext fun P => funext fun K => propext (e P K)
  rw [← this]; exact h
/-- One whose fractions are all in another one is inside of it. -/
theorem Best.inner {S R : Int × Int} {T U : Int → Int → Prop} (h : Best S T) (g : Best R U) (e : ∀ P K, T P K → R.1 * K ≤ P ∧ P ≤ R.2 * K) : insideS S R = true := by
  obtain ⟨h1, ⟨P, K, hT, hl⟩, ⟨P', K', hT', hl'⟩, h4, h5, h6⟩ := h
  obtain ⟨_, _, _, g4, g5, g6⟩ := g
  have a1 := (e P K hT).1
  have a2 := (e P' K' hT').2
  have k1 := (h1 P K hT).1
  have k2 := (h1 P' K' hT').1
  have l1 : R.1 ≤ S.1 := by
    by_cases c : R.1 ≤ S.1
    · exact c
    · have := Int.mul_le_mul_of_nonneg_right (show S.1 + 1 ≤ R.1 by omega) (show 0 ≤ K by omega)
      rw [Int.add_mul] at this
      omega
  have l2 : S.2 ≤ R.2 := by
    by_cases c : S.2 ≤ R.2
    · exact c
    · have := Int.mul_le_mul_of_nonneg_right (show R.2 + 1 ≤ S.2 by omega) (show 0 ≤ K' by omega)
      rw [Int.add_mul] at this
      omega
  have o1 : okS S = true := okS_mk (by omega) (by omega) (by omega)
  have o2 : okS R = true := okS_mk (by omega) (by omega) (by omega)
  unfold insideS
  rw [o1, o2]
  simp [l1, l2]

/-- A small span. -/
def SmS (a : Int × Int) : Prop := -131072 ≤ a.1 ∧ a.1 ≤ a.2 ∧ a.2 ≤ 131072
theorem SmS.ok {a : Int × Int} (h : SmS a) : okS a = true := by
  unfold SmS at h
  exact okS_mk (by omega) (by omega) (by omega)
theorem smQ {n : Int} (h1 : -131072 ≤ n) (h2 : n ≤ 131072) : isQ n = true := (isQ_iff _).2 (by omega)
theorem smD {n : Int} (h1 : 1 ≤ n) (h2 : n ≤ 131072) : isDen n = true := (isDen_iff _).2 (by omega)
theorem sg_pos {d : Int} (h : 0 < d) : sg d = 1 := by unfold sg; split <;> (try split) <;> omega
theorem sg_neg {d : Int} (h : d < 0) : sg d = -1 := by unfold sg; split <;> (try split) <;> omega
theorem best_pos {x n d : Int} (hx1 : -131072 ≤ x) (hx2 : x ≤ 131072) (hn1 : -131072 ≤ n) (hn2 : n ≤ 131072) (hd : 1 ≤ d) :
    Best (rt x n d) (fun P K => P = x * n ∧ K = d) := by
  have h := best_one hx1 hx2 hn1 hn2 (show d ≠ 0 by omega)
  rw [sg_pos (by omega), Int.mul_one, show (d.natAbs : Int) = d by omega] at h
  exact h

theorem scale_best {a : Int × Int} {n d : Int} (ha : SmS a) (hn1 : -131072 ≤ n) (hn2 : n ≤ 131072) (hd1 : 1 ≤ d) (hd2 : d ≤ 131072) :
    (scaleS a n d).2 = 0 ∧ Best (scaleS a n d).1 (fun P K => (P = a.1 * n ∧ K = d) ∨ (P = a.2 * n ∧ K = d)) := by
  have ho := ha.ok
  unfold SmS at ha
  have hb := (best_pos (x := a.1) (n := n) (d := d) (by omega) (by omega) hn1 hn2 hd1).join (best_pos (x := a.2) (n := n) (d := d) (by omega) (by omega) hn1 hn2 hd1)
  have e : scaleS a n d = ((min (rt a.1 n d).1 (rt a.2 n d).1, max (rt a.1 n d).2 (rt a.2 n d).2), 0) := by
    unfold scaleS
    rw [if_pos ⟨ho, smQ hn1 hn2, smD hd1 hd2⟩]
    exact hb.span
  rw [e]
  exact ⟨rfl, hb⟩
theorem mul_best {a b : Int × Int} {d : Int} (ha : SmS a) (hb : SmS b) (hd1 : 1 ≤ d) (hd2 : d ≤ 131072) :
    (mulS a b d).2 = 0 ∧ Best (mulS a b d).1 (fun P K => (((P = a.1 * b.1 ∧ K = d) ∨ (P = a.1 * b.2 ∧ K = d)) ∨ (P = a.2 * b.1 ∧ K = d)) ∨ (P = a.2 * b.2 ∧ K = d)) := by
  have ho : (okS a && okS b) = true := by rw [ha.ok, hb.ok]; rfl
  unfold SmS at ha hb
  have hB := (((best_pos (x := a.1) (n := b.1) (d := d) (by omega) (by omega) (by omega) (by omega) hd1).join (best_pos (x := a.1) (n := b.2) (d := d) (by omega) (by omega) (by omega) (by omega) hd1)).join (best_pos (x := a.2) (n := b.1) (d := d) (by omega) (by omega) (by omega) (by omega) hd1)).join (best_pos (x := a.2) (n := b.2) (d := d) (by omega) (by omega) (by omega) (by omega) hd1)
  have e : mulS a b d = spanS (foldS (rt a.1 b.1 d) [rt a.1 b.2 d, rt a.2 b.1 d, rt a.2 b.2 d]) := by
    unfold mulS
    rw [if_pos ⟨ho, smD hd1 hd2⟩]
  have e2 := hB.span
  rw [show mulS a b d = _ from e.trans e2]
  exact ⟨rfl, hB⟩
theorem square_best {a : Int × Int} {d : Int} (ha : SmS a) (hd1 : 1 ≤ d) (hd2 : d ≤ 131072) :
    (squareS a d).2 = 0 ∧ Best (squareS a d).1 (fun P K => ((P = mid0 a * mid0 a ∧ K = d) ∨ (P = a.1 * a.1 ∧ K = d)) ∨ (P = a.2 * a.2 ∧ K = d)) := by
  have ho := ha.ok
  unfold SmS at ha
  have hm : -131072 ≤ mid0 a ∧ mid0 a ≤ 131072 := by unfold mid0; omega
  have hB := ((best_pos (x := mid0 a) (n := mid0 a) (d := d) hm.1 hm.2 hm.1 hm.2 hd1).join (best_pos (x := a.1) (n := a.1) (d := d) (by omega) (by omega) (by omega) (by omega) hd1)).join (best_pos (x := a.2) (n := a.2) (d := d) (by omega) (by omega) (by omega) (by omega) hd1)
  have e : squareS a d = spanS (foldS (rt (mid0 a) (mid0 a) d) [rt a.1 a.1 d, rt a.2 a.2 d]) := by
    unfold squareS
    rw [if_pos ⟨ho, smD hd1 hd2⟩]
  have e2 := hB.span
  rw [show squareS a d = _ from e.trans e2]
  exact ⟨rfl, hB⟩
/-- The fractions of a quotient's ends. -/
def DivT (a b : Int × Int) (n : Int) (P K : Int) : Prop := (((P = a.1 * n * sg b.1 ∧ K = (b.1.natAbs : Int)) ∨ (P = a.1 * n * sg b.2 ∧ K = (b.2.natAbs : Int))) ∨ (P = a.2 * n * sg b.1 ∧ K = (b.1.natAbs : Int))) ∨ (P = a.2 * n * sg b.2 ∧ K = (b.2.natAbs : Int))
theorem div_best {a b : Int × Int} {n : Int} (ha : SmS a) (hb : SmS b) (hn1 : -131072 ≤ n) (hn2 : n ≤ 131072) (hz : ¬ (b.1 ≤ 0 ∧ 0 ≤ b.2)) :
    (divS a b n).2 = 0 ∧ Best (divS a b n).1 (DivT a b n) := by
  have ho : (okS a && okS b) = true := by rw [ha.ok, hb.ok]; rfl
  unfold SmS at ha hb
  have hB := (((best_one (x := a.1) (n := n) (d := b.1) (by omega) (by omega) (by omega) (by omega) (by omega)).join (best_one (x := a.1) (n := n) (d := b.2) (by omega) (by omega) (by omega) (by omega) (by omega))).join (best_one (x := a.2) (n := n) (d := b.1) (by omega) (by omega) (by omega) (by omega) (by omega))).join (best_one (x := a.2) (n := n) (d := b.2) (by omega) (by omega) (by omega) (by omega) (by omega))
  have e : divS a b n = spanS (foldS (rt a.1 n b.1) [rt a.1 n b.2, rt a.2 n b.1, rt a.2 n b.2]) := by
    unfold divS
    rw [if_pos ⟨ho, smQ hn1 hn2⟩, if_neg hz]
  have e2 := hB.span
  rw [show divS a b n = _ from e.trans e2]
  exact ⟨rfl, hB⟩
theorem div_zero {a b : Int × Int} {n : Int} (ha : SmS a) (hb : SmS b) (hn1 : -131072 ≤ n) (hn2 : n ≤ 131072) (hz : b.1 ≤ 0 ∧ 0 ≤ b.2) : divS a b n = ((0, 0), 9) := by
  have ho : (okS a && okS b) = true := by rw [ha.ok, hb.ok]; rfl
  unfold divS
  rw [if_pos ⟨ho, smQ hn1 hn2⟩, if_pos hz]

/-- What is between two fractions of a span is in it. -/
theorem scale_in {a : Int × Int} {n d : Int} {S : Int × Int} (h : Best S (fun P K => (P = a.1 * n ∧ K = d) ∨ (P = a.2 * n ∧ K = d))) {x : Int} (h1 : a.1 ≤ x) (h2 : x ≤ a.2) : S.1 * d ≤ x * n ∧ x * n ≤ S.2 * d := by
  have k1 := h.1 _ _ (Or.inl ⟨rfl, rfl⟩)
  have k2 := h.1 _ _ (Or.inr ⟨rfl, rfl⟩)
  have k3 := between n h1 h2
  omega
theorem mul_in {a b : Int × Int} {d : Int} {S : Int × Int} (h : Best S (fun P K => (((P = a.1 * b.1 ∧ K = d) ∨ (P = a.1 * b.2 ∧ K = d)) ∨ (P = a.2 * b.1 ∧ K = d)) ∨ (P = a.2 * b.2 ∧ K = d))) {x y : Int} (h1 : a.1 ≤ x) (h2 : x ≤ a.2) (g1 : b.1 ≤ y) (g2 : y ≤ b.2) : S.1 * d ≤ x * y ∧ x * y ≤ S.2 * d := by
  have k1 := h.1 _ _ (Or.inl (Or.inl (Or.inl ⟨rfl, rfl⟩)))
  have k2 := h.1 _ _ (Or.inl (Or.inl (Or.inr ⟨rfl, rfl⟩)))
  have k3 := h.1 _ _ (Or.inl (Or.inr ⟨rfl, rfl⟩))
  have k4 := h.1 _ _ (Or.inr ⟨rfl, rfl⟩)
  have m1 := between y h1 h2
  have m2 := between a.1 g1 g2
  have m3 := between a.2 g1 g2
  rw [Int.mul_comm b.1 a.1, Int.mul_comm y a.1, Int.mul_comm b.2 a.1] at m2
  rw [Int.mul_comm b.1 a.2, Int.mul_comm y a.2, Int.mul_comm b.2 a.2] at m3
  omega
theorem square_in {a : Int × Int} {d : Int} {S : Int × Int} (h : Best S (fun P K => ((P = mid0 a * mid0 a ∧ K = d) ∨ (P = a.1 * a.1 ∧ K = d)) ∨ (P = a.2 * a.2 ∧ K = d))) {x : Int} (h1 : a.1 ≤ x) (h2 : x ≤ a.2) : S.1 * d ≤ x * x ∧ x * x ≤ S.2 * d := by
  have k1 := h.1 _ _ (Or.inl (Or.inl ⟨rfl, rfl⟩))
  have k2 := h.1 _ _ (Or.inl (Or.inr ⟨rfl, rfl⟩))
  have k3 := h.1 _ _ (Or.inr ⟨rfl, rfl⟩)
  have hu : x * x ≤ a.1 * a.1 ∨ x * x ≤ a.2 * a.2 := by
    by_cases hx : 0 ≤ x
    · exact Or.inr (Int.mul_le_mul h2 h2 hx (by omega))
    · have := Int.mul_le_mul (show -x ≤ -a.1 by omega) (show -x ≤ -a.1 by omega) (by omega) (by omega)
      rw [Int.neg_mul_neg, Int.neg_mul_neg] at this
      exact Or.inl this
  have hm : mid0 a * mid0 a ≤ x * x := by
    have hc : mid0 a = 0 ∨ (0 ≤ mid0 a ∧ mid0 a ≤ x) ∨ (x ≤ mid0 a ∧ mid0 a ≤ 0) := by unfold mid0; omega
    rcases hc with hc | ⟨c1, c2⟩ | ⟨c1, c2⟩
    · rw [hc]
      by_cases hx : 0 ≤ x
      · have := Int.mul_nonneg hx hx
        omega
      · have := Int.mul_nonneg (show 0 ≤ -x by omega) (show 0 ≤ -x by omega)
        rw [Int.neg_mul_neg] at this
        omega
    · exact Int.mul_le_mul c2 c2 c1 (by omega)
    · have := Int.mul_le_mul (show -mid0 a ≤ -x by omega) (show -mid0 a ≤ -x by omega) (by omega) (by omega)
      rwa [Int.neg_mul_neg, Int.neg_mul_neg] at this
  omega
/-- The same for quotients: the sign of the denominator is taken out. -/
theorem div_in {a b : Int × Int} {n : Int} {S : Int × Int} (hz : ¬ (b.1 ≤ 0 ∧ 0 ≤ b.2)) (h : Best S (DivT a b n)) {x y : Int} (h1 : a.1 ≤ x) (h2 : x ≤ a.2) (g1 : b.1 ≤ y) (g2 : y ≤ b.2) :
    S.1 * (y.natAbs : Int) ≤ x * n * sg y ∧ x * n * sg y ≤ S.2 * (y.natAbs : Int) := by
  have k1 := h.1 _ _ (Or.inl (Or.inl (Or.inl ⟨rfl, rfl⟩)))
  have k2 := h.1 _ _ (Or.inl (Or.inl (Or.inr ⟨rfl, rfl⟩)))
  have k3 := h.1 _ _ (Or.inl (Or.inr ⟨rfl, rfl⟩))
  have k4 := h.1 _ _ (Or.inr ⟨rfl, rfl⟩)
  have m1 := between n h1 h2
  by_cases hs : 0 < y
  · rw [sg_pos (show 0 < b.1 by omega)] at k1 k3
    rw [sg_pos (show 0 < b.2 by omega)] at k2 k4
    rw [sg_pos hs]
    have e1 : (b.1.natAbs : Int) = b.1 := by omega
    have e2 : (b.2.natAbs : Int) = b.2 := by omega
    have e3 : (y.natAbs : Int) = y := by omega
    rw [e1] at k1 k3
    rw [e2] at k2 k4
    rw [e3]
    have m2 := between S.1 g1 g2
    have m3 := between S.2 g1 g2
    simp only [Int.mul_comm _ S.1, Int.mul_comm _ S.2, Int.mul_one] at *
    omega
  · rw [sg_neg (show b.1 < 0 by omega)] at k1 k3
    rw [sg_neg (show b.2 < 0 by omega)] at k2 k4
    rw [sg_neg (show y < 0 by omega)]
    have e1 : (b.1.natAbs : Int) = -b.1 := by omega
    have e2 : (b.2.natAbs : Int) = -b.2 := by omega
    have e3 : (y.natAbs : Int) = -y := by omega
    rw [e1] at k1 k3
    rw [e2] at k2 k4
    rw [e3]
    have m2 := between S.1 g1 g2
    have m3 := between S.2 g1 g2
    simp only [Int.mul_neg, Int.mul_one] at *
    simp only [Int.mul_comm _ S.1, Int.mul_comm _ S.2] at *
    omega
theorem add_law {a b : Int × Int} (ha : SmS a) (hb : SmS b) : addS a b = ((a.1 + b.1, a.2 + b.2), 0) := by
  rw [addS_yes (by rw [ha.ok, hb.ok]; rfl)]
  unfold SmS at ha hb
  exact spanS_yes ((isQ_iff _).2 (by dsimp only; omega)) ((isQ_iff _).2 (by dsimp only; omega))
theorem sub_law {a b : Int × Int} (ha : SmS a) (hb : SmS b) : subS a b = ((a.1 - b.2, a.2 - b.1), 0) := by
  rw [subS_yes (by rw [ha.ok, hb.ok]; rfl)]
  unfold SmS at ha hb
  exact spanS_yes ((isQ_iff _).2 (by dsimp only; omega)) ((isQ_iff _).2 (by dsimp only; omega))
theorem neg_law {a : Int × Int} (ha : SmS a) : negS a = ((-a.2, -a.1), 0) := negS_yes ha.ok

end Go.Proofs.Ytngnehlmbipabaa

/-
  Small facts on worlds, continued.
-/
set_option linter.unusedSimpArgs false
set_option linter.unusedVariables false
namespace Go.Proofs.Ytngnehlmbipabaa
open Go.RowKit

/-! The same, the step first: for 'by assumption' in this order. -/
theorem cellS {W w2 : World} {p : Addr} {v : Value} (hb : Below W.heap.size W w2) (h : W.cell? p = some v) : w2.cell? p = some v := cell_step h hb
theorem cellA {W : World} {o : Obj} {p : Addr} {v : Value} (h : W.cell? p = some v) : (W.alloc o).cell? p = some v := cell_step h ((Below.refl _ _).alloc (Nat.le_refl _) o)
theorem cellD {W : World} {p : Addr} {v : Value} (h : W.cell? p = some v) : W.drew.cell? p = some v := h
theorem freeS {W w2 : World} {p : Addr} {v : Value} (hb : Below W.heap.size W w2) (h : W.cell? p = some v) (hf : W.frozen? p = false) : w2.frozen? p = false := free_step h hf hb
theorem freeA {W : World} {o : Obj} {p : Addr} {v : Value} (h : W.cell? p = some v) (hf : W.frozen? p = false) : (W.alloc o).frozen? p = false := free_step h hf ((Below.refl _ _).alloc (Nat.le_refl _) o)
theorem freeD {W : World} {p : Addr} (h : W.frozen? p = false) : W.drew.frozen? p = false := h
theorem bStepF {w b c : World} (k : Below b.heap.size b c) (h : Below w.heap.size w b) : Below w.heap.size w c := bStep h k

end Go.Proofs.Ytngnehlmbipabaa
