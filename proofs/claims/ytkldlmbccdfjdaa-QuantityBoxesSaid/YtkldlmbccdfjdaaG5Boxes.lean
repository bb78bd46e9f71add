/-
  The walks of span and number: the spans and numbers of the laws without a reference.
-/
import Derived.Test.YtkldlmbccdfjdaaG1Boxes
import Derived.Test.YtkldlmbccdfjdaaRows
import Derived.Deep.DeepCutAuto
import Derived.Test.YtkldlmbccdfjdaaG4Boxes
import Derived.Test.YtkldlmbccdfjdaaG2Boxes
set_option linter.unusedSimpArgs false
set_option linter.unusedVariables false
namespace Go.Proofs.Ytkldlmbccdfjdaa
open Go.RowKit

/-- How wide a small span is. -/
def lenOf (len : Int) : Int := if len < 0 then -(len + 1) else len
def spanOf (lo len : Int) : Int × Int := (lo, lo + lenOf len)
def numOf (lo len at_ : Int) : Int := lo + at_ % (lo + lenOf len - lo + 1)
theorem lenOf_bd {len : Int} (h1 : -32768 ≤ len) (h2 : len ≤ 32767) : 0 ≤ lenOf len ∧ lenOf len ≤ 32767 := by
  unfold lenOf; split <;> omega

set_option maxHeartbeats 400000 in
theorem span_any (lo len at_ : Int) (w : World) (h1 : -32768 ≤ lo) (h2 : lo ≤ 32767) (h3 : -32768 ≤ len) (h4 : len ≤ 32767) :
    Calls Try.prog 17 #[.agg #[.int .i16 lo, .int .i16 len, .int .u16 at_]] w fun e w' => e = .returned (.agg #[.int .i64 (spanOf lo len).1, .int .i64 (spanOf lo len).2]) ∧ Below w.heap.size w w' := by
  by_cases h : len < 0
  · have e : spanOf lo len = (lo, lo + -(len + 1)) := by simp [spanOf, lenOf, h]
    rw [e]; clear e
    go_enter Try.func17, Try.ntmps17
    go_wp2
    exact bodyPost_ret (v := .agg #[.int .i64 lo, .int .i64 (lo + -(len + 1))]) (by simp only [results, Try.results17]; go_simp) rfl ⟨rfl, (by repeat' (first | exact Below.refl _ _ | assumption | apply bDrewN | apply bDrew | apply bAlloc | (refine bSet ?_ ?_ _) | (refine bStep ?_ (by assumption)) | omega | (simp <;> omega)))⟩
  · have e : spanOf lo len = (lo, lo + len) := by simp [spanOf, lenOf, h]
    rw [e]; clear e
    go_enter Try.func17, Try.ntmps17
    go_wp2
    exact bodyPost_ret (v := .agg #[.int .i64 lo, .int .i64 (lo + len)]) (by simp only [results, Try.results17]; go_simp) rfl ⟨rfl, (by repeat' (first | exact Below.refl _ _ | assumption | apply bDrewN | apply bDrew | apply bAlloc | (refine bSet ?_ ?_ _) | (refine bStep ?_ (by assumption)) | omega | (simp <;> omega)))⟩

end Go.Proofs.Ytkldlmbccdfjdaa

/-
  Two small spans' boxes: what a region keeps that makes two spans of them.
-/
set_option linter.unusedSimpArgs false
set_option linter.unusedVariables false
namespace Go.Proofs.Ytkldlmbccdfjdaa
open Go.RowKit

/-- The boxes of the first two parameters (at w.heap.size and one further). -/
def SmBox (w : World) (v0 v1 v2 u0 u1 u2 : Value) (W : World) : Prop :=
  W.cell? ⟨w.heap.size, 0, none⟩ = some v0 ∧ W.cell? ⟨w.heap.size, 1, none⟩ = some v1 ∧ W.cell? ⟨w.heap.size, 2, none⟩ = some v2 ∧
  W.cell? ⟨w.heap.size + 1, 0, none⟩ = some u0 ∧ W.cell? ⟨w.heap.size + 1, 1, none⟩ = some u1 ∧ W.cell? ⟨w.heap.size + 1, 2, none⟩ = some u2 ∧ Below w.heap.size w W
theorem SmBox.step {w W w2 : World} {v0 v1 v2 u0 u1 u2 : Value} (hb : Below W.heap.size W w2) (h : SmBox w v0 v1 v2 u0 u1 u2 W) : SmBox w v0 v1 v2 u0 u1 u2 w2 := by
  obtain ⟨h1, h2, h3, h4, h5, h6, h8⟩ := h
  exact ⟨cell_step h1 hb, cell_step h2 hb, cell_step h3 hb, cell_step h4 hb, cell_step h5 hb, cell_step h6 hb, bStep h8 hb⟩
theorem SmBox.alloc {w W : World} {v0 v1 v2 u0 u1 u2 : Value} {o : Obj} (h : SmBox w v0 v1 v2 u0 u1 u2 W) : SmBox w v0 v1 v2 u0 u1 u2 (W.alloc o) := h.step ((Below.refl _ _).alloc (Nat.le_refl _) _)
theorem SmBox.drew {w W : World} {v0 v1 v2 u0 u1 u2 : Value} (h : SmBox w v0 v1 v2 u0 u1 u2 W) : SmBox w v0 v1 v2 u0 u1 u2 W.drew := h.step (Below.refl _ _).drew
theorem SmBox.set {w W : World} {v0 v1 v2 u0 u1 u2 : Value} {r o : Nat} {v : Value} (h : SmBox w v0 v1 v2 u0 u1 u2 W) (hr : w.heap.size + 1 < r) : SmBox w v0 v1 v2 u0 u1 u2 (W.setCell ⟨r, o, none⟩ v) := by
  obtain ⟨h1, h2, h3, h4, h5, h6, h8⟩ := h
  have e : w.heap.size ≠ r := by omega
  have e' : w.heap.size + 1 ≠ r := by omega
  exact ⟨cell_set_far h1 e, cell_set_far h2 e, cell_set_far h3 e, cell_set_far h4 e', cell_set_far h5 e', cell_set_far h6 e', bSet h8 (show w.heap.size ≤ r by omega) _⟩

end Go.Proofs.Ytkldlmbccdfjdaa

/-
  The walk of the law QuantityMeets.
-/
set_option linter.unusedSimpArgs false
set_option linter.unusedVariables false
namespace Go.Proofs.Ytkldlmbccdfjdaa
open Go.RowKit

theorem spanOf_ok {lo len : Int} (h1 : -32768 ≤ lo) (h2 : lo ≤ 32767) (h3 : -32768 ≤ len) (h4 : len ≤ 32767) : okS (spanOf lo len) = true := by
  have h := lenOf_bd h3 h4
  exact okS_mk (by omega) (by omega) (by omega)

theorem okS_num {a : Int × Int} : okS a = true ↔ (-1099511627776 ≤ a.1 ∧ a.2 ≤ 1099511627776 ∧ a.1 ≤ a.2) := by
  constructor
  · intro h
    have := okS_bd h
    omega
  · intro h; exact okS_mk (by omega) (by omega) (by omega)
theorem meet_law {a b : Int × Int} (ha : okS a = true) (hb : okS b = true) :
    (((meetS a b).2 = 0 ∧ ∀ n, hasS (meetS a b).1 n = (decide (a.1 ≤ n) && decide (n ≤ a.2) && (decide (b.1 ≤ n) && decide (n ≤ b.2)))) ∨ ((meetS a b).2 = 5 ∧ ∀ n, (decide (a.1 ≤ n) && decide (n ≤ a.2) && (decide (b.1 ≤ n) && decide (n ≤ b.2))) = false)) := by
  have h : (okS a && okS b) = true := by rw [ha, hb]; rfl
  rw [okS_num] at ha hb
  by_cases h2 : min a.2 b.2 < max a.1 b.1
  · right
    rw [meetS_none h h2]
    refine ⟨rfl, fun n => ?_⟩
    rw [Bool.eq_false_iff]
    simp only [ne_eq, Bool.and_eq_true, decide_eq_true_eq]
    omega
  · left
    rw [meetS_yes h h2]
    refine ⟨rfl, fun n => ?_⟩
    have hk : okS (max a.1 b.1, min a.2 b.2) = true := okS_num.2 (by simp only; omega)
    unfold hasS
    rw [hk, Bool.eq_iff_iff]
    simp only [Bool.true_and, Bool.and_eq_true, decide_eq_true_eq]
    omega
theorem hull_law {a b : Int × Int} (ha : okS a = true) (hb : okS b = true) :
    (hullS a b).2 = 0 ∧ ∀ n, (decide (a.1 ≤ n) && decide (n ≤ a.2) || (decide (b.1 ≤ n) && decide (n ≤ b.2))) = true → hasS (hullS a b).1 n = true := by
  have h : (okS a && okS b) = true := by rw [ha, hb]; rfl
  rw [okS_num] at ha hb
  rw [hullS_yes h]
  refine ⟨rfl, fun n hn => ?_⟩
  have hk : okS (min a.1 b.1, max a.2 b.2) = true := okS_num.2 (by simp only; omega)
  unfold hasS
  rw [hk]
  simp only [Bool.true_and, Bool.and_eq_true, Bool.or_eq_true, decide_eq_true_eq] at hn ⊢
  omega

/-- A span's box. -/
def Two (p : Nat) (lo hi : Int) (W : World) : Prop := W.cell? ⟨p, 0, none⟩ = some (.int .i64 lo) ∧ W.cell? ⟨p, 1, none⟩ = some (.int .i64 hi)
theorem Two.step {p : Nat} {lo hi : Int} {W W2 : World} (h : Two p lo hi W) (hb : Below W.heap.size W W2) : Two p lo hi W2 := ⟨cell_step h.1 hb, cell_step h.2 hb⟩
theorem bAl {W : World} {o : Obj} : Below W.heap.size W (W.alloc o) := (Below.refl _ _).alloc (Nat.le_refl _) _
theorem Two.new {W : World} {x y : Int} {T : TypeId} : Two W.heap.size x y (W.alloc (.cells #[.int .i64 x, .int .i64 y] T)) := ⟨by go_simp, by go_simp⟩
def MeSt (w : World) (v0 v1 v2 u0 u1 u2 : Value) (p q m h : Nat) (a b c d : Int × Int) (W : World) : Prop :=
  W.cell? ⟨w.heap.size, 0, none⟩ = some (v0) ∧ W.cell? ⟨w.heap.size, 1, none⟩ = some (v1) ∧ W.cell? ⟨w.heap.size, 2, none⟩ = some (v2) ∧ W.cell? ⟨w.heap.size + 1, 0, none⟩ = some (u0) ∧ W.cell? ⟨w.heap.size + 1, 1, none⟩ = some (u1) ∧ W.cell? ⟨w.heap.size + 1, 2, none⟩ = some (u2) ∧ W.cell? ⟨p, 0, none⟩ = some (.int .i64 a.1) ∧ W.cell? ⟨p, 1, none⟩ = some (.int .i64 a.2) ∧ W.cell? ⟨q, 0, none⟩ = some (.int .i64 b.1) ∧ W.cell? ⟨q, 1, none⟩ = some (.int .i64 b.2) ∧ W.cell? ⟨m, 0, none⟩ = some (.int .i64 c.1) ∧ W.cell? ⟨m, 1, none⟩ = some (.int .i64 c.2) ∧ W.cell? ⟨h, 0, none⟩ = some (.int .i64 d.1) ∧ W.cell? ⟨h, 1, none⟩ = some (.int .i64 d.2) ∧ Below w.heap.size w W
theorem MeSt.step {w W w2 : World} {v0 v1 v2 u0 u1 u2 : Value} {p q m h : Nat} {a b c d : Int × Int} (s : MeSt w v0 v1 v2 u0 u1 u2 p q m h a b c d W) (hb : Below W.heap.size W w2) : MeSt w v0 v1 v2 u0 u1 u2 p q m h a b c d w2 := by
  obtain ⟨h0, h1, h2, h3, h4, h5, h6, h7, h8, h9, i0, i1, i2, i3, i4⟩ := s
  exact ⟨cell_step h0 hb, cell_step h1 hb, cell_step h2 hb, cell_step h3 hb, cell_step h4 hb, cell_step h5 hb, cell_step h6 hb, cell_step h7 hb, cell_step h8 hb, cell_step h9 hb, cell_step i0 hb, cell_step i1 hb, cell_step i2 hb, cell_step i3 hb, bStep i4 hb⟩
theorem MeSt.mk' {w W : World} {v0 v1 v2 u0 u1 u2 : Value} {p q m h : Nat} {a b c d : Int × Int} (s : SmBox w v0 v1 v2 u0 u1 u2 W) (ha : Two p a.1 a.2 W) (hb : Two q b.1 b.2 W) (hc : Two m c.1 c.2 W) (hd : Two h d.1 d.2 W) : MeSt w v0 v1 v2 u0 u1 u2 p q m h a b c d W := by
  obtain ⟨h0, h1, h2, h3, h4, h5, h6⟩ := s
  exact ⟨h0, h1, h2, h3, h4, h5, ha.1, ha.2, hb.1, hb.2, hc.1, hc.2, hd.1, hd.2, h6⟩
/-- A row of nine numbers in memory. -/
def Nine (s : Nat) (W : World) : Prop := ∀ k, k < 9 → ∃ v : Int, W.cell? ⟨s, k, none⟩ = some (.int .i64 v)
theorem Nine.step {s : Nat} {W w2 : World} (h : Nine s W) (hb : Below W.heap.size W w2) : Nine s w2 := fun k hk => (h k hk).imp fun _ e => cell_step e hb
theorem Nine.new {W : World} {a b c d e f g h i : Int} {T : TypeId} : Nine W.heap.size (W.alloc (.cells #[.int .i64 a, .int .i64 b, .int .i64 c, .int .i64 d, .int .i64 e, .int .i64 f, .int .i64 g, .int .i64 h, .int .i64 i] T)) := fun k hk => by
  have : k = 0 ∨ k = 1 ∨ k = 2 ∨ k = 3 ∨ k = 4 ∨ k = 5 ∨ k = 6 ∨ k = 7 ∨ k = 8 := by omega
  rcases this with rfl | rfl | rfl | rfl | rfl | rfl | rfl | rfl | rfl
  · exact ⟨a, by go_simp⟩
  · exact ⟨b, by go_simp⟩
  · exact ⟨c, by go_simp⟩
  · exact ⟨d, by go_simp⟩
  · exact ⟨e, by go_simp⟩
  · exact ⟨f, by go_simp⟩
  · exact ⟨g, by go_simp⟩
  · exact ⟨h, by go_simp⟩
  · exact ⟨i, by go_simp⟩
/-- The row, as a region makes it. -/
def NineF (b : Bool) (s : Value) (W : World) : Prop := b = true → ∃ r, s = .slice (some ⟨r, 0, none⟩) 9 9 ∧ Nine r W
theorem NineF.step {b : Bool} {s : Value} {W w2 : World} (h : NineF b s W) (hb : Below W.heap.size W w2) : NineF b s w2 := fun e => (h e).imp fun _ e => ⟨e.1, e.2.step hb⟩
theorem NineF.no {s : Value} {W : World} : NineF false s W := fun e => by cases e
theorem NineF.new {W : World} {a b c d e f g h i : Int} {T : TypeId} : NineF true (.slice (some ⟨W.heap.size, 0, none⟩) 9 9) (W.alloc (.cells #[.int .i64 a, .int .i64 b, .int .i64 c, .int .i64 d, .int .i64 e, .int .i64 f, .int .i64 g, .int .i64 h, .int .i64 i] T)) := fun _ => ⟨_, rfl, Nine.new⟩
theorem MeSt.drew {w W : World} {v0 v1 v2 u0 u1 u2 : Value} {p q m h : Nat} {a b c d : Int × Int} (s : MeSt w v0 v1 v2 u0 u1 u2 p q m h a b c d W) : MeSt w v0 v1 v2 u0 u1 u2 p q m h a b c d W.drew := s.step (Below.refl _ _).drew

end Go.Proofs.Ytkldlmbccdfjdaa

/-
  The plain laws of Add, Sub, Neg, Scale, Mul, Div, Square on small numbers: the fractions are all in what is returned, and its ends are needed.
-/
set_option linter.unusedSimpArgs false
set_option linter.unusedVariables false
namespace Go.Proofs.Ytkldlmbccdfjdaa
open Go.RowKit

theorem sg_abs (x : Int) : x = (x.natAbs : Int) * sg x := by
  unfold sg; split <;> (try split) <;> omega

/-- x between two others: the products with any number, too. -/
theorem between (y : Int) {a b x : Int} (h1 : a ≤ x) (h2 : x ≤ b) : (a * y ≤ x * y ∧ x * y ≤ b * y) ∨ (b * y ≤ x * y ∧ x * y ≤ a * y) := by
  by_cases hy : 0 ≤ y
  · exact Or.inl ⟨Int.mul_le_mul_of_nonneg_right h1 hy, Int.mul_le_mul_of_nonneg_right h2 hy⟩
  · exact Or.inr ⟨Int.mul_le_mul_of_nonpos_right h2 (by omega), Int.mul_le_mul_of_nonpos_right h1 (by omega)⟩
theorem mul_bd {x n A B : Int} (h1 : -A ≤ x) (h2 : x ≤ A) (h3 : -B ≤ n) (h4 : n ≤ B) : -(A * B) ≤ x * n ∧ x * n ≤ A * B := by
  have k1 := between n h1 h2
  have k2 := between A h3 h4
  rw [Int.neg_mul, Int.mul_comm A n] at k1
  rw [Int.neg_mul, Int.mul_comm B A] at k2
  have k3 := Int.mul_nonneg (show 0 ≤ A by omega) (show 0 ≤ B by omega)
  omega

/-- The fraction p / k is between v and v + 1. -/
theorem dn_floor {x n d : Int} (hx1 : -131072 ≤ x) (hx2 : x ≤ 131072) (hn1 : -131072 ≤ n) (hn2 : n ≤ 131072) (hd : d ≠ 0) :
    dn x n d * (d.natAbs : Int) ≤ x * n * sg d ∧ x * n * sg d < dn x n d * (d.natAbs : Int) + (d.natAbs : Int) := by
  have ex := sg_abs x
  have en := sg_abs n
  have ed := sg_abs d
  have bx := sg_bd x
  have bn := sg_bd n
  have bd := sg_bd d
  unfold dn
  have bX : 0 ≤ (x.natAbs : Int) ∧ (x.natAbs : Int) ≤ 131072 := by omega
  have bN : 0 ≤ (n.natAbs : Int) ∧ (n.natAbs : Int) ≤ 131072 := by omega
  have bD : 1 ≤ (d.natAbs : Int) := by omega
  have zx : sg x = 0 → (x.natAbs : Int) = 0 := by intro h; rw [h] at ex; omega
  have zn : sg n = 0 → (n.natAbs : Int) = 0 := by intro h; rw [h] at en; omega
  have zd : sg d ≠ 0 := by intro h; rw [h] at ed; omega
  generalize (x.natAbs : Int) = X at *
  generalize (n.natAbs : Int) = N at *
  generalize (d.natAbs : Int) = D at *
  generalize sg x = sx at *
  generalize sg n = sn at *
  generalize sg d = sd at *
  have hP : x * n * sd = (X * N) * (sx * sn * sd) := by
    rw [ex, en]; simp only [Int.mul_left_comm, Int.mul_comm]
  rw [hP]
  have hXN := mul_bd (x := X) (n := N) (A := 131072) (B := 131072) (by omega) (by omega) (by omega) (by omega)
  have hXN0 := Int.mul_nonneg bX.1 bN.1
  have hS := mul_one_bd (mul_one_bd bx bn) bd
  have hq := Int.emod_add_mul_ediv (X * N) D
  have hr1 := Int.emod_nonneg (X * N) (show D ≠ 0 by omega)
  have hr2 := Int.emod_lt_of_pos (X * N) (show 0 < D by omega)
  have hle : X * N / D ≤ X * N := Int.ediv_le_self _ hXN0
  have hlim : ¬ Pl.LIM < X * N / D := by rw [Pl.LIM_val]; omega
  unfold Pl.dvq Pl.dvr
  rw [if_neg hlim, if_neg hlim]
  have hz : sx * sn * sd = 0 → X * N = 0 := by
    intro h
    rcases Int.mul_eq_zero.1 h with h | h
    · rcases Int.mul_eq_zero.1 h with h | h
      · rw [zx h, Int.zero_mul]
      · rw [zn h, Int.mul_zero]
    · exact absurd h zd
  generalize sx * sn * sd = S at *
  rw [Int.mul_comm D] at hq
  generalize X * N = V at *
  generalize V / D = q at *
  generalize V % D = r at *
  have hc : S = 0 ∨ S = 1 ∨ S = -1 := by omega
  rcases hc with rfl | rfl | rfl
  · have := hz rfl
    have hq0 : q * D = 0 := by
      have h1 : 0 ≤ q := by
        by_cases h : 0 ≤ q
        · exact h
        · have := Int.mul_le_mul_of_nonneg_right (show q ≤ -1 by omega) (show 0 ≤ D by omega)
          omega
      have := Int.mul_nonneg h1 (show 0 ≤ D by omega)
      omega
    simp only [Int.mul_zero]
    rw [if_pos (by omega)]
    omega
  · rw [if_pos (by omega)]
    omega
  · rw [if_neg (by omega)]
    split
    · rw [Int.neg_mul, Int.add_mul]
      omega
    · rw [Int.neg_mul]
      omega
theorem up_ceil {x n d : Int} (hx1 : -131072 ≤ x) (hx2 : x ≤ 131072) (hn1 : -131072 ≤ n) (hn2 : n ≤ 131072) (hd : d ≠ 0) :
    x * n * sg d ≤ up x n d * (d.natAbs : Int) ∧ up x n d * (d.natAbs : Int) - (d.natAbs : Int) < x * n * sg d := by
  have h := dn_floor (x := -x) (n := n) (d := d) (by omega) (by omega) hn1 hn2 hd
  unfold up
  rw [Int.neg_mul, Int.neg_mul] at h
  rw [Int.neg_mul]
  omega

/-- All fractions are in a span, and both of its ends are needed. -/
def Best (S : Int × Int) (T : Int → Int → Prop) : Prop :=
  (∀ P K, T P K → 0 < K ∧ S.1 * K ≤ P ∧ P ≤ S.2 * K) ∧ (∃ P K, T P K ∧ P < S.1 * K + K) ∧ (∃ P K, T P K ∧ S.2 * K - K < P) ∧ -34359738368 ≤ S.1 ∧ S.2 ≤ 34359738368 ∧ S.1 ≤ S.2

theorem fr_bd {v K P : Int} (hK : 1 ≤ K) (h1 : v * K ≤ P) (h2 : P < v * K + K) (h3 : -17179869190 ≤ P) (h4 : P ≤ 17179869190) : -17179869190 ≤ v ∧ v ≤ 17179869190 := by
  constructor
  · by_cases h : -17179869190 ≤ v
    · exact h
    · have := Int.mul_le_mul_of_nonneg_right (show v ≤ -17179869191 by omega) (show 0 ≤ K by omega)
      omega
  · by_cases h : v ≤ 17179869190
    · exact h
    · have := Int.mul_le_mul_of_nonneg_right (show 17179869191 ≤ v by omega) (show 0 ≤ K by omega)
      omega
theorem best_one {x n d : Int} (hx1 : -131072 ≤ x) (hx2 : x ≤ 131072) (hn1 : -131072 ≤ n) (hn2 : n ≤ 131072) (hd : d ≠ 0) :
    Best (rt x n d) (fun P K => P = x * n * sg d ∧ K = (d.natAbs : Int)) := by
  have h1 := dn_floor hx1 hx2 hn1 hn2 hd
  have h2 := up_ceil hx1 hx2 hn1 hn2 hd
  have hK : 1 ≤ (d.natAbs : Int) := by omega
  have hb := mul_bd (x := x) (n := n) (A := 131072) (B := 131072) hx1 hx2 hn1 hn2
  have hb2 := mul_bd (x := x * n) (n := sg d) (A := 17179869184) (B := 1) hb.1 hb.2 (by have := sg_bd d; omega) (by have := sg_bd d; omega)
  unfold rt Best
  dsimp only
  generalize dn x n d = v at *
  generalize up x n d = u at *
  generalize x * n * sg d = P at *
  generalize (d.natAbs : Int) = K at *
  have b1 := fr_bd hK h1.1 h1.2 (by omega) (by omega)
  have b2 := fr_bd (v := u - 1) (P := P - 1) hK (by rw [Int.sub_mul]; omega) (by rw [Int.sub_mul]; omega) (by omega) (by omega)
  have b3 : v ≤ u := by
    by_cases h : v ≤ u
    · exact h
    · have := Int.mul_le_mul_of_nonneg_right (show u + 1 ≤ v by omega) (show 0 ≤ K by omega)
      rw [Int.add_mul] at this
      omega
  refine ⟨?_, ⟨P, K, ⟨rfl, rfl⟩, by omega⟩, ⟨P, K, ⟨rfl, rfl⟩, by omega⟩, by omega, by omega, b3⟩
  rintro P K ⟨rfl, rfl⟩
  omega
theorem Best.join {S R : Int × Int} {T U : Int → Int → Prop} (h : Best S T) (g : Best R U) : Best (min S.1 R.1, max S.2 R.2) (fun P K => T P K ∨ U P K) := by
  obtain ⟨h1, h2, h3, h4, h5, h6⟩ := h
  obtain ⟨g1, g2, g3, g4, g5, g6⟩ := g
  refine ⟨?_, ?_, ?_, ?_, ?_, ?_⟩ <;> dsimp only
  · intro P K hP
    have hm1 := fun hK : 0 < K => Int.mul_le_mul_of_nonneg_right (show min S.1 R.1 ≤ S.1 by omega) (Int.le_of_lt hK)
    have hm2 := fun hK : 0 < K => Int.mul_le_mul_of_nonneg_right (show min S.1 R.1 ≤ R.1 by omega) (Int.le_of_lt hK)
    have hm3 := fun hK : 0 < K => Int.mul_le_mul_of_nonneg_right (show S.2 ≤ max S.2 R.2 by omega) (Int.le_of_lt hK)
    have hm4 := fun hK : 0 < K => Int.mul_le_mul_of_nonneg_right (show R.2 ≤ max S.2 R.2 by omega) (Int.le_of_lt hK)
    rcases hP with hP | hP
    · have q := h1 P K hP
      exact ⟨q.1, Int.le_trans (hm1 q.1) q.2.1, Int.le_trans q.2.2 (hm3 q.1)⟩
    · have q := g1 P K hP
      exact ⟨q.1, Int.le_trans (hm2 q.1) q.2.1, Int.le_trans q.2.2 (hm4 q.1)⟩
  · by_cases hc : S.1 ≤ R.1
    · obtain ⟨P, K, hT, hlt⟩ := h2
      exact ⟨P, K, Or.inl hT, by rw [show min S.1 R.1 = S.1 by omega]; exact hlt⟩
    · obtain ⟨P, K, hT, hlt⟩ := g2
      exact ⟨P, K, Or.inr hT, by rw [show min S.1 R.1 = R.1 by omega]; exact hlt⟩
  · by_cases hc : R.2 ≤ S.2
    · obtain ⟨P, K, hT, hlt⟩ := h3
      exact ⟨P, K, Or.inl hT, by rw [show max S.2 R.2 = S.2 by omega]; exact hlt⟩
    · obtain ⟨P, K, hT, hlt⟩ := g3
      exact ⟨P, K, Or.inr hT, by rw [show max S.2 R.2 = R.2 by omega]; exact hlt⟩
  · omega
  · omega
  · omega
theorem Best.span {S : Int × Int} {T : Int → Int → Prop} (h : Best S T) : spanS S = (S, 0) :=
  spanS_yes ((isQ_iff _).2 (by have := h.2.2.2; omega)) ((isQ_iff _).2 (by have := h.2.2.2; omega))
theorem Best.same {S : Int × Int} {T U : Int → Int → Prop} (h : Best S T) (e : ∀ P K, T P K ↔ U P K) : Best S U := by
  have : T = U := funext fun P => funext fun K => propext (e P K)
  rw [← this]; exact h
/-- One whose fractions are all in another one is inside of it. -/
theorem Best.inner {S R : Int × Int} {T U : Int → Int → Prop} (h : Best S T) (g : Best R U) (e : ∀ P K, T P K → R.1 * K ≤ P ∧ P ≤ R.2 * K) : insideS S R = true := by
  obtain ⟨h1, ⟨P, K, hT, hl⟩, ⟨P', K', hT', hl'⟩, h4, h5, h6⟩ := h
  obtain ⟨_, _, _, g4, g5, g6⟩ := g
  have a1 := (e P K hT).1
  have a2 := (e P' K' hT').2
  have k1 := (h1 P K hT).1
  have k2 := (h1 P' K' hT').1
  have l1 : R.1 ≤ S.1 := by
    by_cases c : R.1 ≤ S.1
    · exact c
    · have := Int.mul_le_mul_of_nonneg_right (show S.1 + 1 ≤ R.1 by omega) (show 0 ≤ K by omega)
      rw [Int.add_mul] at this
      omega
  have l2 : S.2 ≤ R.2 := by
    by_cases c : S.2 ≤ R.2
    · exact c
    · have := Int.mul_le_mul_of_nonneg_right (show R.2 + 1 ≤ S.2 by omega) (show 0 ≤ K' by omega)
      rw [Int.add_mul] at this
      omega
  have o1 : okS S = true := okS_mk (by omega) (by omega) (by omega)
  have o2 : okS R = true := okS_mk (by omega) (by omega) (by omega)
  unfold insideS
  rw [o1, o2]
  simp [l1, l2]

/-- A small span. -/
def SmS (a : Int × Int) : Prop := -131072 ≤ a.1 ∧ a.1 ≤ a.2 ∧ a.2 ≤ 131072
theorem SmS.ok {a : Int × Int} (h : SmS a) : okS a = true := by
  unfold SmS at h
  exact okS_mk (by omega) (by omega) (by omega)
theorem smQ {n : Int} (h1 : -131072 ≤ n) (h2 : n ≤ 131072) : isQ n = true := (isQ_iff _).2 (by omega)
theorem smD {n : Int} (h1 : 1 ≤ n) (h2 : n ≤ 131072) : isDen n = true := (isDen_iff _).2 (by omega)
theorem sg_pos {d : Int} (h : 0 < d) : sg d = 1 := by unfold sg; split <;> (try split) <;> omega
theorem sg_neg {d : Int} (h : d < 0) : sg d = -1 := by unfold sg; split <;> (try split) <;> omega
theorem best_pos {x n d : Int} (hx1 : -131072 ≤ x) (hx2 : x ≤ 131072) (hn1 : -131072 ≤ n) (hn2 : n ≤ 131072) (hd : 1 ≤ d) :
    Best (rt x n d) (fun P K => P = x * n ∧ K = d) := by
  have h := best_one hx1 hx2 hn1 hn2 (show d ≠ 0 by omega)
  rw [sg_pos (by omega), Int.mul_one, show (d.natAbs : Int) = d by omega] at h
  exact h

theorem scale_best {a : Int × Int} {n d : Int} (ha : SmS a) (hn1 : -131072 ≤ n) (hn2 : n ≤ 131072) (hd1 : 1 ≤ d) (hd2 : d ≤ 131072) :
    (scaleS a n d).2 = 0 ∧ Best (scaleS a n d).1 (fun P K => (P = a.1 * n ∧ K = d) ∨ (P = a.2 * n ∧ K = d)) := by
  have ho := ha.ok
  unfold SmS at ha
  have hb := (best_pos (x := a.1) (n := n) (d := d) (by omega) (by omega) hn1 hn2 hd1).join (best_pos (x := a.2) (n := n) (d := d) (by omega) (by omega) hn1 hn2 hd1)
  have e : scaleS a n d = ((min (rt a.1 n d).1 (rt a.2 n d).1, max (rt a.1 n d).2 (rt a.2 n d).2), 0) := by
    unfold scaleS
    rw [if_pos ⟨ho, smQ hn1 hn2, smD hd1 hd2⟩]
    exact hb.span
  rw [e]
  exact ⟨rfl, hb⟩
theorem mul_best {a b : Int × Int} {d : Int} (ha : SmS a) (hb : SmS b) (hd1 : 1 ≤ d) (hd2 : d ≤ 131072) :
    (mulS a b d).2 = 0 ∧ Best (mulS a b d).1 (fun P K => (((P = a.1 * b.1 ∧ K = d) ∨ (P = a.1 * b.2 ∧ K = d)) ∨ (P = a.2 * b.1 ∧ K = d)) ∨ (P = a.2 * b.2 ∧ K = d)) := by
  have ho : (okS a && okS b) = true := by rw [ha.ok, hb.ok]; rfl
  unfold SmS at ha hb
  have hB := (((best_pos (x := a.1) (n := b.1) (d := d) (by omega) (by omega) (by omega) (by omega) hd1).join (best_pos (x := a.1) (n := b.2) (d := d) (by omega) (by omega) (by omega) (by omega) hd1)).join (best_pos (x := a.2) (n := b.1) (d := d) (by omega) (by omega) (by omega) (by omega) hd1)).join (best_pos (x := a.2) (n := b.2) (d := d) (by omega) (by omega) (by omega) (by omega) hd1)
  have e : mulS a b d = spanS (foldS (rt a.1 b.1 d) [rt a.1 b.2 d, rt a.2 b.1 d, rt a.2 b.2 d]) := by
    unfold mulS
    rw [if_pos ⟨ho, smD hd1 hd2⟩]
  have e2 := hB.span
  rw [show mulS a b d = _ from e.trans e2]
  exact ⟨rfl, hB⟩
theorem square_best {a : Int × Int} {d : Int} (ha : SmS a) (hd1 : 1 ≤ d) (hd2 : d ≤ 131072) :
    (squareS a d).2 = 0 ∧ Best (squareS a d).1 (fun P K => ((P = mid0 a * mid0 a ∧ K = d) ∨ (P = a.1 * a.1 ∧ K = d)) ∨ (P = a.2 * a.2 ∧ K = d)) := by
  have ho := ha.ok
  unfold SmS at ha
  have hm : -131072 ≤ mid0 a ∧ mid0 a ≤ 131072 := by unfold mid0; omega
  have hB := ((best_pos (x := mid0 a) (n := mid0 a) (d := d) hm.1 hm.2 hm.1 hm.2 hd1).join (best_pos (x := a.1) (n := a.1) (d := d) (by omega) (by omega) (by omega) (by omega) hd1)).join (best_pos (x := a.2) (n := a.2) (d := d) (by omega) (by omega) (by omega) (by omega) hd1)
  have e : squareS a d = spanS (foldS (rt (mid0 a) (mid0 a) d) [rt a.1 a.1 d, rt a.2 a.2 d]) := by
    unfold squareS
    rw [if_pos ⟨ho, smD hd1 hd2⟩]
  have e2 := hB.span
  rw [show squareS a d = _ from e.trans e2]
  exact ⟨rfl, hB⟩
/-- The fractions of a quotient's ends. -/
def DivT (a b : Int × Int) (n : Int) (P K : Int) : Prop := (((P = a.1 * n * sg b.1 ∧ K = (b.1.natAbs : Int)) ∨ (P = a.1 * n * sg b.2 ∧ K = (b.2.natAbs : Int))) ∨ (P = a.2 * n * sg b.1 ∧ K = (b.1.natAbs : Int))) ∨ (P = a.2 * n * sg b.2 ∧ K = (b.2.natAbs : Int))
theorem div_best {a b : Int × Int} {n : Int} (ha : SmS a) (hb : SmS b) (hn1 : -131072 ≤ n) (hn2 : n ≤ 131072) (hz : ¬ (b.1 ≤ 0 ∧ 0 ≤ b.2)) :
    (divS a b n).2 = 0 ∧ Best (divS a b n).1 (DivT a b n) := by
  have ho : (okS a && okS b) = true := by rw [ha.ok, hb.ok]; rfl
  unfold SmS at ha hb
  have hB := (((best_one (x := a.1) (n := n) (d := b.1) (by omega) (by omega) (by omega) (by omega) (by omega)).join (best_one (x := a.1) (n := n) (d := b.2) (by omega) (by omega) (by omega) (by omega) (by omega))).join (best_one (x := a.2) (n := n) (d := b.1) (by omega) (by omega) (by omega) (by omega) (by omega))).join (best_one (x := a.2) (n := n) (d := b.2) (by omega) (by omega) (by omega) (by omega) (by omega))
  have e : divS a b n = spanS (foldS (rt a.1 n b.1) [rt a.1 n b.2, rt a.2 n b.1, rt a.2 n b.2]) := by
    unfold divS
    rw [if_pos ⟨ho, smQ hn1 hn2⟩, if_neg hz]
  have e2 := hB.span
  rw [show divS a b n = _ from e.trans e2]
  exact ⟨rfl, hB⟩
theorem div_zero {a b : Int × Int} {n : Int} (ha : SmS a) (hb : SmS b) (hn1 : -131072 ≤ n) (hn2 : n ≤ 131072) (hz : b.1 ≤ 0 ∧ 0 ≤ b.2) : divS a b n = ((0, 0), 9) := by
  have ho : (okS a && okS b) = true := by rw [ha.ok, hb.ok]; rfl
  unfold divS
  rw [if_pos ⟨ho, smQ hn1 hn2⟩, if_pos hz]

/-- What is between two fractions of a span is in it. -/
theorem scale_in {a : Int × Int} {n d : Int} {S : Int × Int} (h : Best S (fun P K => (P = a.1 * n ∧ K = d) ∨ (P = a.2 * n ∧ K = d))) {x : Int} (h1 : a.1 ≤ x) (h2 : x ≤ a.2) : S.1 * d ≤ x * n ∧ x * n ≤ S.2 * d := by
  have k1 := h.1 _ _ (Or.inl ⟨rfl, rfl⟩)
  have k2 := h.1 _ _ (Or.inr ⟨rfl, rfl⟩)
  have k3 := between n h1 h2
  omega
theorem mul_in {a b : Int × Int} {d : Int} {S : Int × Int} (h : Best S (fun P K => (((P = a.1 * b.1 ∧ K = d) ∨ (P = a.1 * b.2 ∧ K = d)) ∨ (P = a.2 * b.1 ∧ K = d)) ∨ (P = a.2 * b.2 ∧ K = d))) {x y : Int} (h1 : a.1 ≤ x) (h2 : x ≤ a.2) (g1 : b.1 ≤ y) (g2 : y ≤ b.2) : S.1 * d ≤ x * y ∧ x * y ≤ S.2 * d := by
  have k1 := h.1 _ _ (Or.inl (Or.inl (Or.inl ⟨rfl, rfl⟩)))
  have k2 := h.1 _ _ (Or.inl (Or.inl (Or.inr ⟨rfl, rfl⟩)))
  have k3 := h.1 _ _ (Or.inl (Or.inr ⟨rfl, rfl⟩))
  have k4 := h.1 _ _ (Or.inr ⟨rfl, rfl⟩)
  have m1 := between y h1 h2
  have m2 := between a.1 g1 g2
  have m3 := between a.2 g1 g2
  rw [Int.mul_comm b.1 a.1, Int.mul_comm y a.1, Int.mul_comm b.2 a.1] at m2
  rw [Int.mul_comm b.1 a.2, Int.mul_comm y a.2, Int.mul_comm b.2 a.2] at m3
  omega
theorem square_in {a : Int × Int} {d : Int} {S : Int × Int} (h : Best S (fun P K => ((P = mid0 a * mid0 a ∧ K = d) ∨ (P = a.1 * a.1 ∧ K = d)) ∨ (P = a.2 * a.2 ∧ K = d))) {x : Int} (h1 : a.1 ≤ x) (h2 : x ≤ a.2) : S.1 * d ≤ x * x ∧ x * x ≤ S.2 * d := by
  have k1 := h.1 _ _ (Or.inl (Or.inl ⟨rfl, rfl⟩))
  have k2 := h.1 _ _ (Or.inl (Or.inr ⟨rfl, rfl⟩))
  have k3 := h.1 _ _ (Or.inr ⟨rfl, rfl⟩)
  have hu : x * x ≤ a.1 * a.1 ∨ x * x ≤ a.2 * a.2 := by
    by_cases hx : 0 ≤ x
    · exact Or.inr (Int.mul_le_mul h2 h2 hx (by omega))
    · have := Int.mul_le_mul (show -x ≤ -a.1 by omega) (show -x ≤ -a.1 by omega) (by omega) (by omega)
      rw [Int.neg_mul_neg, Int.neg_mul_neg] at this
      exact Or.inl this
  have hm : mid0 a * mid0 a ≤ x * x := by
    have hc : mid0 a = 0 ∨ (0 ≤ mid0 a ∧ mid0 a ≤ x) ∨ (x ≤ mid0 a ∧ mid0 a ≤ 0) := by unfold mid0; omega
    rcases hc with hc | ⟨c1, c2⟩ | ⟨c1, c2⟩
    · rw [hc]
      by_cases hx : 0 ≤ x
      · have := Int.mul_nonneg hx hx
        omega
      · have := Int.mul_nonneg (show 0 ≤ -x by omega) (show 0 ≤ -x by omega)
        rw [Int.neg_mul_neg] at this
        omega
    · exact Int.mul_le_mul c2 c2 c1 (by omega)
    · have := Int.mul_le_mul (show -mid0 a ≤ -x by omega) (show -mid0 a ≤ -x by omega) (by omega) (by omega)
      rwa [Int.neg_mul_neg, Int.neg_mul_neg] at this
  omega
/-- The same for quotients: the sign of the denominator is taken out. -/
theorem div_in {a b : Int × Int} {n : Int} {S : Int × Int} (hz : ¬ (b.1 ≤ 0 ∧ 0 ≤ b.2)) (h : Best S (DivT a b n)) {x y : Int} (h1 : a.1 ≤ x) (h2 : x ≤ a.2) (g1 : b.1 ≤ y) (g2 : y ≤ b.2) :
    S.1 * (y.natAbs : Int) ≤ x * n * sg y ∧ x * n * sg y ≤ S.2 * (y.natAbs : Int) := by
  have k1 := h.1 _ _ (Or.inl (Or.inl (Or.inl ⟨rfl, rfl⟩)))
  have k2 := h.1 _ _ (Or.inl (Or.inl (Or.inr ⟨rfl, rfl⟩)))
  have k3 := h.1 _ _ (Or.inl (Or.inr ⟨rfl, rfl⟩))
  have k4 := h.1 _ _ (Or.inr ⟨rfl, rfl⟩)
  have m1 := between n h1 h2
  by_cases hs : 0 < y
  · rw [sg_pos (show 0 < b.1 by omega)] at k1 k3
    rw [sg_pos (show 0 < b.2 by omega)] at k2 k4
    rw [sg_pos hs]
    have e1 : (b.1.natAbs : Int) = b.1 := by omega
    have e2 : (b.2.natAbs : Int) = b.2 := by omega
    have e3 : (y.natAbs : Int) = y := by omega
    rw [e1] at k1 k3
    rw [e2] at k2 k4
    rw [e3]
    have m2 := between S.1 g1 g2
    have m3 := between S.2 g1 g2
    simp only [Int.mul_comm _ S.1, Int.mul_comm _ S.2, Int.mul_one] at *
    omega
  · rw [sg_neg (show b.1 < 0 by omega)] at k1 k3
    rw [sg_neg (show b.2 < 0 by omega)] at k2 k4
    rw [sg_neg (show y < 0 by omega)]
    have e1 : (b.1.natAbs : Int) = -b.1 := by omega
    have e2 : (b.2.natAbs : Int) = -b.2 := by omega
    have e3 : (y.natAbs : Int) = -y := by omega
    rw [e1] at k1 k3
    rw [e2] at k2 k4
    rw [e3]
    have m2 := between S.1 g1 g2
    have m3 := between S.2 g1 g2
    simp only [Int.mul_neg, Int.mul_one] at *
    simp only [Int.mul_comm _ S.1, Int.mul_comm _ S.2] at *
    omega
theorem add_law {a b : Int × Int} (ha : SmS a) (hb : SmS b) : addS a b = ((a.1 + b.1, a.2 + b.2), 0) := by
  rw [addS_yes (by rw [ha.ok, hb.ok]; rfl)]
  unfold SmS at ha hb
  exact spanS_yes ((isQ_iff _).2 (by dsimp only; omega)) ((isQ_iff _).2 (by dsimp only; omega))
theorem sub_law {a b : Int × Int} (ha : SmS a) (hb : SmS b) : subS a b = ((a.1 - b.2, a.2 - b.1), 0) := by
  rw [subS_yes (by rw [ha.ok, hb.ok]; rfl)]
  unfold SmS at ha hb
  exact spanS_yes ((isQ_iff _).2 (by dsimp only; omega)) ((isQ_iff _).2 (by dsimp only; omega))
theorem neg_law {a : Int × Int} (ha : SmS a) : negS a = ((-a.2, -a.1), 0) := negS_yes ha.ok

end Go.Proofs.Ytkldlmbccdfjdaa

/-
  The walk of the law's 'in'.
-/
set_option linter.unusedSimpArgs false
set_option linter.unusedVariables false
namespace Go.Proofs.Ytkldlmbccdfjdaa
open Go.RowKit

theorem pr_bd {a k : Int} (h1 : -34359738368 ≤ a) (h2 : a ≤ 34359738368) (h3 : -131072 ≤ k) (h4 : k ≤ 131072) : -4503599627370496 ≤ a * k ∧ a * k ≤ 4503599627370496 :=
  mul_bd (A := 34359738368) (B := 131072) h1 h2 h3 h4

end Go.Proofs.Ytkldlmbccdfjdaa

/-
  The states of the laws that compute with two small spans.
-/
set_option linter.unusedSimpArgs false
set_option linter.unusedVariables false
namespace Go.Proofs.Ytkldlmbccdfjdaa
open Go.RowKit

/-- A span's box that will be written. -/
def Fre (p : Nat) (x y : Int) (W : World) : Prop := W.cell? ⟨p, 0, none⟩ = some (.int .i64 x) ∧ W.cell? ⟨p, 1, none⟩ = some (.int .i64 y) ∧ W.frozen? ⟨p, 0, none⟩ = false ∧ W.frozen? ⟨p, 1, none⟩ = false
theorem Fre.step {p : Nat} {x y : Int} {W W2 : World} (h : Fre p x y W) (hb : Below W.heap.size W W2) : Fre p x y W2 := ⟨cell_step h.1 hb, cell_step h.2.1 hb, free_step h.1 h.2.2.1 hb, free_step h.2.1 h.2.2.2 hb⟩
theorem Fre.new {W : World} {x y : Int} {T : TypeId} : Fre W.heap.size x y (W.alloc (.cells #[.int .i64 x, .int .i64 y] T)) := ⟨by go_simp, by go_simp, by go_simp, by go_simp⟩
theorem Fre.set {p : Nat} {x y : Int} {W : World} (h : Fre p x y W) (u v : Int) : Fre p u v ((W.setCell ⟨p, 0, none⟩ (.int .i64 u)).setCell ⟨p, 1, none⟩ (.int .i64 v)) := by
  obtain ⟨h1, h2, h3, h4⟩ := h
  refine ⟨?_, ?_, ?_, ?_⟩ <;> go_simp
theorem Fre.far {p r : Nat} {x y : Int} {W : World} {u v : Value} (h : Fre p x y W) (hne : p ≠ r) : Fre p x y ((W.setCell ⟨r, 0, none⟩ u).setCell ⟨r, 1, none⟩ v) := by
  obtain ⟨h1, h2, h3, h4⟩ := h
  exact ⟨cell_set_far (cell_set_far h1 hne) hne, cell_set_far (cell_set_far h2 hne) hne, by go_simp, by go_simp⟩
theorem Two.far {p r : Nat} {x y : Int} {W : World} {u v : Value} (h : Two p x y W) (hne : p ≠ r) : Two p x y ((W.setCell ⟨r, 0, none⟩ u).setCell ⟨r, 1, none⟩ v) :=
  ⟨cell_set_far (cell_set_far h.1 hne) hne, cell_set_far (cell_set_far h.2 hne) hne⟩

/-- Two spans, and two boxes that are written. -/
def KeSt (w : World) (p q s t : Nat) (a b c d : Int × Int) (W : World) : Prop :=
  Two p a.1 a.2 W ∧ Two q b.1 b.2 W ∧ Fre s c.1 c.2 W ∧ Fre t d.1 d.2 W ∧ Below w.heap.size w W ∧ (p < s ∧ q < s ∧ s < t ∧ w.heap.size ≤ s)
theorem KeSt.step {w W w2 : World} {p q s t : Nat} {a b c d : Int × Int} (h : KeSt w p q s t a b c d W) (hb : Below W.heap.size W w2) : KeSt w p q s t a b c d w2 := by
  obtain ⟨h1, h2, h3, h4, h5, h6⟩ := h
  exact ⟨h1.step hb, h2.step hb, h3.step hb, h4.step hb, bStep h5 hb, h6⟩
theorem KeSt.setS {w W : World} {p q s t : Nat} {a b c d : Int × Int} (h : KeSt w p q s t a b c d W) (x y : Int) : KeSt w p q s t a b (x, y) d ((W.setCell ⟨s, 0, none⟩ (.int .i64 x)).setCell ⟨s, 1, none⟩ (.int .i64 y)) := by
  obtain ⟨h1, h2, h3, h4, h5, h6, h7, h8, h9⟩ := h
  exact ⟨h1.far (by omega), h2.far (by omega), h3.set x y, h4.far (by omega), bSet (bSet h5 h9 _) h9 _, h6, h7, h8, h9⟩
theorem KeSt.setT {w W : World} {p q s t : Nat} {a b c d : Int × Int} (h : KeSt w p q s t a b c d W) (x y : Int) : KeSt w p q s t a b c (x, y) ((W.setCell ⟨t, 0, none⟩ (.int .i64 x)).setCell ⟨t, 1, none⟩ (.int .i64 y)) := by
  obtain ⟨h1, h2, h3, h4, h5, h6, h7, h8, h9⟩ := h
  have h10 : w.heap.size ≤ t := by omega
  exact ⟨h1.far (by omega), h2.far (by omega), h3.far (by omega), h4.set x y, bSet (bSet h5 h10 _) h10 _, h6, h7, h8, h9⟩

/-- The one that will be written alone. -/
def TiSt (w : World) (p q s : Nat) (a b c : Int × Int) (W : World) : Prop :=
  Two p a.1 a.2 W ∧ Two q b.1 b.2 W ∧ Fre s c.1 c.2 W ∧ Below w.heap.size w W ∧ (p < s ∧ q < s ∧ w.heap.size ≤ s)
theorem TiSt.step {w W w2 : World} {p q s : Nat} {a b c : Int × Int} (h : TiSt w p q s a b c W) (hb : Below W.heap.size W w2) : TiSt w p q s a b c w2 := by
  obtain ⟨h1, h2, h3, h5, h6⟩ := h
  exact ⟨h1.step hb, h2.step hb, h3.step hb, bStep h5 hb, h6⟩
theorem TiSt.setS {w W : World} {p q s : Nat} {a b c : Int × Int} (h : TiSt w p q s a b c W) (x y : Int) : TiSt w p q s a b (x, y) ((W.setCell ⟨s, 0, none⟩ (.int .i64 x)).setCell ⟨s, 1, none⟩ (.int .i64 y)) := by
  obtain ⟨h1, h2, h3, h5, h6, h7, h9⟩ := h
  exact ⟨h1.far (by omega), h2.far (by omega), h3.set x y, bSet (bSet h5 h9 _) h9 _, h6, h7, h9⟩

theorem SmS_of {lo len : Int} (h1 : -32768 ≤ lo) (h2 : lo ≤ 32767) (h3 : -32768 ≤ len) (h4 : len ≤ 32767) : SmS (spanOf lo len) := by
  have h := lenOf_bd h3 h4
  unfold SmS spanOf
  dsimp only
  omega
theorem numOf_bd {lo len at_ : Int} (h3 : -32768 ≤ len) (h4 : len ≤ 32767) : lo ≤ numOf lo len at_ ∧ numOf lo len at_ ≤ lo + lenOf len := by
  have h := lenOf_bd h3 h4
  have h1 := Int.emod_nonneg at_ (show lo + lenOf len - lo + 1 ≠ 0 by omega)
  have h2 := Int.emod_lt_of_pos at_ (show 0 < lo + lenOf len - lo + 1 by omega)
  unfold numOf
  omega

end Go.Proofs.Ytkldlmbccdfjdaa
