/-
  Back's tests are monotone along a curve.
-/
import Derived.Test.YtngnehlmbipabaaG27Backs
set_option linter.unusedSimpArgs false
set_option linter.unusedVariables false
namespace Go.Proofs.Ytngnehlmbipabaa
theorem predV_mono {xs ys : List Int} (h : SmC xs ys) (first s1 s2 : Int) : ∀ t a b, a ≤ b → predV xs ys first s1 s2 t a = true → predV xs ys first s1 s2 t b = true := by
  intro t a b hab ha
  have m := h.mono (x := first + (a : Int)) (x' := first + (b : Int)) (by omega)
  cases t with
  | true =>
    simp only [predV, cond_true, decide_eq_true_eq] at ha ⊢
    omega
  | false =>
    simp only [predV, cond_false, decide_eq_true_eq] at ha ⊢
    omega
/-- Where the two least numbers part the answers: inside, exactly, both tests hold. -/
theorem backR_in {xs ys : List Int} {first s1 s2 : Int} {n lo ov : Nat} (h1 : Least n (predV xs ys first s1 s2 true) lo) (h2 : Least n (predV xs ys first s1 s2 false) ov) {k : Nat} (hk : k < n) :
    (lo ≤ k ∧ k < ov) ↔ (s1 ≤ (valS xs ys (first + k)).1 ∧ (valS xs ys (first + k)).2 ≤ s2) := by
  have a1 := h1.no k
  have a2 := h1.yes k
  have b1 := h2.no k
  have b2 := h2.yes k
  simp only [predV, cond_true, cond_false, decide_eq_true_eq, decide_eq_false_iff_not] at a1 a2 b1 b2
  constructor
  · rintro ⟨c1, c2⟩
    exact ⟨a2 c1 hk, by have := b1 c2; omega⟩
  · rintro ⟨c1, c2⟩
    refine ⟨?_, ?_⟩
    · by_cases e : k < lo
      · exact absurd c1 (a1 e)
      · omega
    · by_cases e : k < ov
      · exact e
      · have := b2 (by omega) hk
        omega
/-- The law's two tests of one number agree. -/
theorem backR_test {xs ys : List Int} {first s1 s2 : Int} {n lo ov : Nat} (h1 : Least n (predV xs ys first s1 s2 true) lo) (h2 : Least n (predV xs ys first s1 s2 false) ov) {k : Nat} (hk : k < n) :
    (((backR first lo ov).2 = 0 ∧ (backR first lo ov).1.1 ≤ first + k) ∧ first + k ≤ (backR first lo ov).1.2) ↔ (s1 ≤ (valS xs ys (first + k)).1 ∧ (valS xs ys (first + k)).2 ≤ s2) := by
  rw [← backR_in h1 h2 hk]
  unfold backR
  by_cases e : ov ≤ lo
  · rw [if_pos e]
    constructor
    · rintro ⟨⟨c1, c2⟩, c3⟩
      exact absurd c1 (by show ¬ ((5 : Int) = 0); decide)
    · rintro ⟨c1, c2⟩
      omega
  · rw [if_neg e]
    constructor
    · rintro ⟨⟨c1, c2⟩, c3⟩
      replace c2 : first + (lo : Int) ≤ first + k := c2
      replace c3 : first + (k : Int) ≤ first + ov - 1 := c3
      exact ⟨by omega, by omega⟩
    · rintro ⟨c1, c2⟩
      exact ⟨⟨rfl, by show first + (lo : Int) ≤ first + k; omega⟩, by show first + (k : Int) ≤ first + ov - 1; omega⟩
end Go.Proofs.Ytngnehlmbipabaa

/-
  The rows of the law's curve.
-/
set_option linter.unusedSimpArgs false
set_option linter.unusedVariables false
namespace Go.Proofs.Ytngnehlmbipabaa
def stX : Int → List (Int × Int) → List Int
  | x, [] => [x]
  | x, s :: l => x :: stX (x + 1 + s.1) l
def stY : Int → List (Int × Int) → List Int
  | y, [] => [y]
  | y, s :: l => y :: stY (y + s.2) l
theorem stX_len : ∀ (l : List (Int × Int)) (x : Int), (stX x l).length = l.length + 1
  | [], _ => rfl
  | s :: l, x => by simp [stX, stX_len l]
theorem stY_len : ∀ (l : List (Int × Int)) (x : Int), (stY x l).length = l.length + 1
  | [], _ => rfl
  | s :: l, x => by simp [stY, stY_len l]
theorem stX_zero (l : List (Int × Int)) (x : Int) : (stX x l).getD 0 0 = x := by cases l <;> rfl
theorem stY_zero (l : List (Int × Int)) (x : Int) : (stY x l).getD 0 0 = x := by cases l <;> rfl
theorem stX_snoc : ∀ (l : List (Int × Int)) (x : Int) (s : Int × Int), stX x (l ++ [s]) = stX x l ++ [(stX x l).getD l.length 0 + 1 + s.1]
  | [], _, _ => rfl
  | t :: l, x, s => by
    have := stX_snoc l (x + 1 + t.1) s
    show x :: stX (x + 1 + t.1) (l ++ [s]) = _
    rw [this]
    simp [stX]
theorem stY_snoc : ∀ (l : List (Int × Int)) (x : Int) (s : Int × Int), stY x (l ++ [s]) = stY x l ++ [(stY x l).getD l.length 0 + s.2]
  | [], _, _ => rfl
  | t :: l, x, s => by
    have := stY_snoc l (x + t.2) s
    show x :: stY (x + t.2) (l ++ [s]) = _
    rw [this]
    simp [stY]
/-- Steps are small. -/
def stOk (l : List (Int × Int)) : Prop := ∀ s ∈ l, (0 ≤ s.1 ∧ s.1 ≤ 255) ∧ 0 ≤ s.2 ∧ s.2 ≤ 255
theorem st_rng : ∀ (l : List (Int × Int)) (x y : Int) (k : Nat), stOk l → k ≤ l.length → (x ≤ (stX x l).getD k 0 ∧ (stX x l).getD k 0 ≤ x + 256 * l.length) ∧ y ≤ (stY y l).getD k 0 ∧ (stY y l).getD k 0 ≤ y + 256 * l.length
  | [], x, y, k, _, hk => by
    obtain rfl : k = 0 := by simpa using hk
    simp [stX, stY]
  | s :: l, x, y, 0, h, _ => by
    rw [stX_zero, stY_zero]
    omega
  | s :: l, x, y, k + 1, h, hk => by
    have hs := h s (by simp)
    have := st_rng l (x + 1 + s.1) (y + s.2) k (fun t ht => h t (by simp [ht])) (by simpa using hk)
    have e1 : (stX x (s :: l)).getD (k + 1) 0 = (stX (x + 1 + s.1) l).getD k 0 := rfl
    have e2 : (stY y (s :: l)).getD (k + 1) 0 = (stY (y + s.2) l).getD k 0 := rfl
    rw [e1, e2, List.length_cons]
    omega
theorem st_ris : ∀ (l : List (Int × Int)) (x y : Int) (k : Nat), stOk l → k < l.length → rising (stX x l) (stY y l) k
  | s :: l, x, y, 0, h, _ => by
    have hs := h s (by simp)
    have e1 : (stX x (s :: l)).getD (0 + 1) 0 = (stX (x + 1 + s.1) l).getD 0 0 := rfl
    have e2 : (stY y (s :: l)).getD (0 + 1) 0 = (stY (y + s.2) l).getD 0 0 := rfl
    unfold rising
    rw [e1, e2, stX_zero, stY_zero, stX_zero, stY_zero]
    omega
  | s :: l, x, y, k + 1, h, hk => st_ris l (x + 1 + s.1) (y + s.2) k (fun t ht => h t (by simp [ht])) (by simpa using hk)
/-- The steps that the curve has: twenty at most, and one of (0, 0) if there are none. -/
def stps (l : List (Int × Int)) : List (Int × Int) := if l = [] then [(0, 0)] else l.take 20
theorem stps_ok {l : List (Int × Int)} (h : stOk l) : stOk (stps l) ∧ 1 ≤ (stps l).length ∧ (stps l).length ≤ 20 := by
  unfold stps
  by_cases e : l = []
  · rw [if_pos e]
    refine ⟨?_, by simp, by simp⟩
    intro s hs
    obtain rfl : s = (0, 0) := by simpa using hs
    simp
  · rw [if_neg e]
    refine ⟨fun s hs => h s (List.mem_of_mem_take hs), ?_, by simp; omega⟩
    have := List.length_pos_iff.2 e
    simp
    omega
theorem crv_ok {l : List (Int × Int)} {x y : Int} (h : stOk l) (hl : 1 ≤ l.length) (hl2 : l.length ≤ 20) (hx : -32768 ≤ x ∧ x ≤ 32767) (hy : -32768 ≤ y ∧ y ≤ 32767) : SmC (stX x l) (stY y l) ∧ checkC (stX x l) (stY y l) = 0 := by
  have q : ∀ k, (-60000 ≤ (stX x l).getD k 0 ∧ (stX x l).getD k 0 ≤ 60000) ∧ -60000 ≤ (stY y l).getD k 0 ∧ (stY y l).getD k 0 ≤ 60000 := by
    intro k
    by_cases hk : k ≤ l.length
    · have := st_rng l x y k h hk
      omega
    · have e1 : (stX x l).getD k 0 = 0 := by rw [List.getD_eq_getElem?_getD, List.getElem?_eq_none (by rw [stX_len]; omega)]; rfl
      have e2 : (stY y l).getD k 0 = 0 := by rw [List.getD_eq_getElem?_getD, List.getElem?_eq_none (by rw [stY_len]; omega)]; rfl
      rw [e1, e2]
      omega
  have r : ∀ k, k < (stX x l).length - 1 → rising (stX x l) (stY y l) k := fun k hk => st_ris l x y k h (by rw [stX_len] at hk; omega)
  refine ⟨⟨by rw [stX_len, stY_len], by rw [stX_len]; omega, fun k => (q k).1, fun k => (q k).2, r⟩, ?_⟩
  unfold checkC
  rw [if_neg (by rw [stX_len, stY_len]; omega), if_pos]
  refine ⟨?_, r⟩
  have m : ∀ (L : List Int), (∀ k, -60000 ≤ L.getD k 0 ∧ L.getD k 0 ≤ 60000) → L.all isQ = true := by
    intro L hL
    rw [List.all_eq_true]
    intro t ht
    obtain ⟨k, hk, e⟩ := List.getElem_of_mem ht
    have := hL k
    rw [List.getD_eq_getElem?_getD, List.getElem?_eq_getElem hk, e] at this
    have h2 : -60000 ≤ t ∧ t ≤ 60000 := this
    exact (isQ_iff t).2 (by omega)
  exact ⟨by rw [stX_len, stY_len], by rw [stX_len]; omega, m _ fun k => (q k).1, m _ fun k => (q k).2⟩
end Go.Proofs.Ytngnehlmbipabaa
