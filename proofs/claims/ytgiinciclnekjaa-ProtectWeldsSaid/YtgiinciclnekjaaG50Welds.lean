/-
  The truths of a life in plain numbers: they are possible.
-/
import Derived.Test.YtgiinciclnekjaaG49Welds
set_option linter.unusedSimpArgs false
set_option linter.unusedVariables false
namespace Go.Proofs.Ytgiinciclnekjaa
open Sx Go.RowKit
theorem w64 {y : Int} (h : -4611686018427387904 ≤ y ∧ y ≤ 4611686018427387904) : IntKind.i64.wrap y = y := Go.IntWalk.i64_in _ ⟨by omega, by omega⟩
/-- The numbers of a life; of a tick. -/
def LfOk (x : Nat → Int) : Prop := ∀ j, j < 17 → j ≠ 2 → 0 ≤ x j ∧ x j ≤ 255
structure TkOk (t : Nat → Int) : Prop where
  a : ∀ j, j < 21 → -128 ≤ t j ∧ t j ≤ 127
  b : ∀ j, 21 ≤ j → j < 26 → -2147483648 ≤ t j ∧ t j ≤ 2147483647
  c : 0 ≤ t 26 ∧ t 26 ≤ 255
section
variable {x t : Nat → Int}
theorem gu_spread (hx : LfOk x) {q : Nat} (hq : q < 5) : guN x (6 + q) = x (12 + q) ∧ 0 ≤ x (12 + q) ∧ x (12 + q) ≤ 255 := by
  have h := hx (12 + q) (by omega) (by omega)
  refine ⟨?_, h⟩
  match q, hq with
  | 0, _ => have h0 : 0 ≤ x 12 ∧ x 12 ≤ 255 := h; exact w64 (y := x 12) (by omega)
  | 1, _ => have h0 : 0 ≤ x 13 ∧ x 13 ≤ 255 := h; exact w64 (y := x 13) (by omega)
  | 2, _ => have h0 : 0 ≤ x 14 ∧ x 14 ≤ 255 := h; exact w64 (y := x 14) (by omega)
  | 3, _ => have h0 : 0 ≤ x 15 ∧ x 15 ≤ 255 := h; exact w64 (y := x 15) (by omega)
  | 4, _ => have h0 : 0 ≤ x 16 ∧ x 16 ≤ 255 := h; exact w64 (y := x 16) (by omega)
theorem gu_deb (hx : LfOk x) {i : Nat} (hi : i < 7) : guN x (11 + i) = 1 + x (4 + i) % 6 ∧ 0 ≤ x (4 + i) % 6 ∧ x (4 + i) % 6 < 6 := by
  have h := hx (4 + i) (by omega) (by omega)
  have h2 : 0 ≤ x (4 + i) % 6 ∧ x (4 + i) % 6 < 6 := by omega
  refine ⟨?_, h2⟩
  have e : ∀ j, 0 ≤ x j ∧ x j ≤ 255 → IntKind.i64.wrap (1 + (IntKind.i64.wrap (x j)).tmod 6) = 1 + x j % 6 := fun j hj => by
    rw [w64 (y := x j) (by omega), Int.tmod_eq_emod_of_nonneg hj.1, w64 (by omega)]
  match i, hi with
  | 0, _ => exact e 4 h
  | 1, _ => exact e 5 h
  | 2, _ => exact e 6 h
  | 3, _ => exact e 7 h
  | 4, _ => exact e 8 h
  | 5, _ => exact e 9 h
  | 6, _ => exact e 10 h
theorem gu_open (hx : LfOk x) : guN x 20 = 1 + x 11 % 8 ∧ 0 ≤ x 11 % 8 ∧ x 11 % 8 < 8 := by
  have h := hx 11 (by omega) (by omega)
  refine ⟨?_, by omega, by omega⟩
  show IntKind.i64.wrap (1 + (IntKind.i64.wrap (x 11)).tmod 8) = _
  rw [w64 (y := x 11) (by omega), Int.tmod_eq_emod_of_nonneg h.1, w64 (by omega)]
theorem la_eq (hx : LfOk x) : (IntKind.i64.wrap (x 3)).tmod 6 = x 3 % 6 ∧ 0 ≤ x 3 % 6 ∧ x 3 % 6 ≤ 5 := by
  have h := hx 3 (by omega) (by omega)
  refine ⟨?_, by omega, by omega⟩
  rw [w64 (by omega), Int.tmod_eq_emod_of_nonneg h.1]
/-- Half of a spread. -/
theorem ha_eq {g : Nat → Int} {q : Nat} {y : Int} (hg : g (6 + q) = y) (hy : 0 ≤ y ∧ y ≤ 255) : haF g q = (y + 1) / 2 ∧ (g (6 + q)).tdiv 2 = y / 2 := by
  have e1 : (g (6 + q)).tdiv 2 = y / 2 := by rw [hg, Int.tdiv_eq_ediv_of_nonneg hy.1]
  refine ⟨?_, e1⟩
  unfold haF
  rw [e1, hg, Int.tmod_eq_emod_of_nonneg hy.1, w64 (y := y / 2) (by omega)]
  by_cases h : y % 2 = 1
  · have : (y % 2 == 1) = true := by simpa using h
    rw [this, cond_true, w64 (by omega)]; omega
  · have : (y % 2 == 1) = false := by simpa using h
    rw [this, cond_false]; omega
theorem val_pos {lim h n : Int} (hl : -10000000 ≤ lim ∧ lim ≤ 10000000) (hh : 0 ≤ h ∧ h ≤ 1000) (hn : -1000 ≤ n ∧ n ≤ 1000) : valF lim h n 1 = if 0 < n then lim + (h + n) else lim - (h - n) := by
  unfold valF
  by_cases c : 0 < n
  · rw [if_pos c, decide_eq_true (show n > 0 from c), cond_true, w64 (y := h + n) (by omega), Int.one_mul, w64 (y := h + n) (by omega), w64 (by omega)]
  · rw [if_neg c, decide_eq_false (show ¬ n > 0 from c), cond_false, w64 (y := h - n) (by omega), Int.one_mul, w64 (y := h - n) (by omega), w64 (by omega)]
theorem val_neg {lim h n : Int} (hl : -10000000 ≤ lim ∧ lim ≤ 10000000) (hh : 0 ≤ h ∧ h ≤ 1000) (hn : -1000 ≤ n ∧ n ≤ 1000) : valF lim h n (-1) = if 0 < n then lim - (h + n) else lim + (h - n) := by
  unfold valF
  by_cases c : 0 < n
  · rw [if_pos c, decide_eq_true (show n > 0 from c), cond_true, w64 (y := h + n) (by omega), show (-1) * (h + n) = -(h + n) by omega, w64 (y := -(h + n)) (by omega), w64 (by omega)]; omega
  · rw [if_neg c, decide_eq_false (show ¬ n > 0 from c), cond_false, w64 (y := h - n) (by omega), show (-1) * (h - n) = -(h - n) by omega, w64 (y := -(h - n)) (by omega), w64 (by omega)]; omega
/-- An error is at most half of the spread. -/
theorem er_in {g : Nat → Int} {j q : Nat} {y : Int} (hg : g (6 + q) = y) (hy : 0 ≤ y ∧ y ≤ 255) (ht : -128 ≤ t (6 + j) ∧ t (6 + j) ≤ 127) : -(y / 2) ≤ erF g t j q ∧ erF g t j q ≤ y / 2 := by
  unfold erF
  rw [(ha_eq hg hy).2]
  obtain ⟨m, hm⟩ : ∃ m, m = y / 2 := ⟨_, rfl⟩
  rw [← hm]
  have hm2 : 0 ≤ m ∧ m ≤ 127 := by omega
  rw [w64 (y := m) (by omega), w64 (y := t (6 + j)) (by omega)]
  generalize t (6 + j) = a at ht
  have p1 : a * m ≤ 127 * m := Int.mul_le_mul_of_nonneg_right ht.2 hm2.1
  have p2 : -128 * m ≤ a * m := Int.mul_le_mul_of_nonneg_right ht.1 hm2.1
  rw [w64 (y := a * m) (by omega)]
  have q1 : -m ≤ (a * m).tdiv 128 ∧ (a * m).tdiv 128 ≤ m := by
    generalize a * m = z at p1 p2
    rcases Int.le_total 0 z with h | h
    · rw [Int.tdiv_eq_ediv_of_nonneg h]; omega
    · have : z.tdiv 128 = -((-z) / 128) := by
        rw [← Int.tdiv_eq_ediv_of_nonneg (show 0 ≤ -z by omega), Int.neg_tdiv]; omega
      rw [this]; omega
  rw [w64 (by omega)]
  exact q1
/-- The true quantities. -/
theorem tv_in (hx : LfOk x) (ht : TkOk t) {q : Nat} (hq : q < 5) : -9000000 ≤ trV (guN x) t q ∧ trV (guN x) t q ≤ 9000000 := by
  have hs := fun q (h : q < 5) => gu_spread hx h
  have hh := fun q (h : q < 5) => ha_eq (hs q h).1 (hs q h).2
  have w : ∀ j, j < 21 → IntKind.i64.wrap (t j) = t j := fun j hj => w64 (by have := ht.a j hj; omega)
  match q, hq with
  | 0, _ =>
    have a := ht.a 0 (by omega); have s := (hs 0 (by omega)).2
    show -9000000 ≤ valF 4200000 _ _ 1 ∧ valF 4200000 _ _ 1 ≤ 9000000
    rw [w 0 (by omega), (hh 0 (by omega)).1, val_pos (by omega) (by omega) (by omega)]
    split <;> omega
  | 1, _ =>
    have a := ht.a 1 (by omega); have s := (hs 1 (by omega)).2
    show -9000000 ≤ valF 2800000 _ _ (-1) ∧ valF 2800000 _ _ (-1) ≤ 9000000
    rw [w 1 (by omega), (hh 1 (by omega)).1, val_neg (by omega) (by omega) (by omega)]
    split <;> omega
  | 2, _ =>
    have a2 := ht.a 2 (by omega); have a3 := ht.a 3 (by omega); have s := (hs 2 (by omega)).2
    show -9000000 ≤ (bif decide (t 3 > 0) then valF (IntKind.i64.wrap (0 - 50000)) _ _ (-1) else valF 100000 _ _ 1) ∧ (bif decide (t 3 > 0) then valF (IntKind.i64.wrap (0 - 50000)) _ _ (-1) else valF 100000 _ _ 1) ≤ 9000000
    rw [w 2 (by omega), w 3 (by omega), (hh 2 (by omega)).1, w64 (y := 0 - 50000) (by omega), val_pos (by omega) (by omega) (by omega), val_neg (by omega) (by omega) (by omega)]
    cases decide (t 3 > 0) <;> simp only [cond_true, cond_false] <;> split <;> omega
  | 3, _ =>
    have a := ht.a 4 (by omega); have s := (hs 3 (by omega)).2
    show -9000000 ≤ valF 330000 _ _ 1 ∧ valF 330000 _ _ 1 ≤ 9000000
    rw [w 4 (by omega), (hh 3 (by omega)).1, val_pos (by omega) (by omega) (by omega)]
    split <;> omega
  | 4, _ =>
    have a := ht.a 5 (by omega); have s := (hs 4 (by omega)).2
    show -9000000 ≤ valF 100000 _ _ (-1) ∧ valF 100000 _ _ (-1) ≤ 9000000
    rw [w 5 (by omega), (hh 4 (by omega)).1, val_neg (by omega) (by omega) (by omega)]
    split <;> omega
theorem qB_in {y : Int} (h : -1099511627776 ≤ y ∧ y ≤ 1099511627776) : qB y = true := by
  unfold qB
  rw [decide_eq_true (show y ≥ -1099511627776 from h.1), decide_eq_true h.2]; rfl
theorem rB_in {y : Int} (h : -549755813888 ≤ y ∧ y ≤ 549755813888) : rB' y = false := by
  unfold rB'
  rw [decide_eq_false (by omega), decide_eq_false (by omega)]; rfl
theorem posB_of {n : Nat → Int} (h1 : ∀ q, q < 5 → qB (n q) = true ∧ qB (n (20 + q)) = true ∧ rB' (n (5 + q)) = false ∧ rB' (n (10 + q)) = false ∧ rB' (n (15 + q)) = false) (h2 : qB (n 27) = true) (h3 : qB (n 28) = true) : posB n = true := by
  unfold posB
  have key : ∀ (l : List Nat) (r : Bool), (∀ q ∈ l, q < 5) → r = true → l.foldr (fun q r => bif (bif !qB (n q) then true else !qB (n (20 + q))) then false else bif rB' (n (5 + q)) then false else bif rB' (n (10 + q)) then false else bif rB' (n (15 + q)) then false else r) r = true := by
    intro l
    induction l with
    | nil => intro r _ h; exact h
    | cons q l ih =>
      intro r hl hr
      rw [List.foldr_cons, ih r (fun q hq => hl q (List.mem_cons_of_mem _ hq)) hr]
      obtain ⟨a, b, c, d, e⟩ := h1 q (hl q List.mem_cons_self)
      rw [a, b, c, d, e]; rfl
  refine key _ _ (fun q hq => List.mem_range.1 hq) ?_
  rw [h2, h3]; rfl
/-- The truth of a tick is possible. -/
theorem trN_pos (hx : LfOk x) (ht : TkOk t) : posB (trN (guN x) t) = true := by
  have er : ∀ j, j < 15 → rB' (trN (guN x) t (5 + j)) = false := fun j hj => by
    have e : trN (guN x) t (5 + j) = erF (guN x) t j (j % 5) := by
      match j, hj with
      | 0, _ => rfl
      | 1, _ => rfl
      | 2, _ => rfl
      | 3, _ => rfl
      | 4, _ => rfl
      | 5, _ => rfl
      | 6, _ => rfl
      | 7, _ => rfl
      | 8, _ => rfl
      | 9, _ => rfl
      | 10, _ => rfl
      | 11, _ => rfl
      | 12, _ => rfl
      | 13, _ => rfl
      | 14, _ => rfl
    have s := gu_spread hx (q := j % 5) (by omega)
    have := er_in (t := t) (j := j) s.1 s.2 (ht.a (6 + j) (by omega))
    rw [e]
    exact rB_in (by omega)
  refine posB_of (fun q hq => ?_) ?_ ?_
  · have e0 : trN (guN x) t q = trV (guN x) t q := by
      match q, hq with
      | 0, _ => rfl
      | 1, _ => rfl
      | 2, _ => rfl
      | 3, _ => rfl
      | 4, _ => rfl
    have e1 : trN (guN x) t (20 + q) = IntKind.i64.wrap (t (21 + q)) := by
      match q, hq with
      | 0, _ => rfl
      | 1, _ => rfl
      | 2, _ => rfl
      | 3, _ => rfl
      | 4, _ => rfl
    have hb := ht.b (21 + q) (by omega) (by omega)
    refine ⟨?_, ?_, er q (by omega), ?_, ?_⟩
    · rw [e0]; have := tv_in hx ht hq; exact qB_in (by omega)
    · rw [e1, w64 (by omega)]; exact qB_in (by omega)
    · have := er (5 + q) (by omega); rwa [show 5 + (5 + q) = 10 + q by omega] at this
    · have := er (10 + q) (by omega); rwa [show 5 + (10 + q) = 15 + q by omega] at this
  · show qB (bif fgI t 48 == 48 then 0 else 400000000) = true
    cases (fgI t 48 == 48) <;> rfl
  · rfl
end
end Go.Proofs.Ytgiinciclnekjaa
