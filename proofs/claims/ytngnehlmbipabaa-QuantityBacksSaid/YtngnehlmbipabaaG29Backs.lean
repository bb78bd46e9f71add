/-
  The answers of Back and Image, as the law asks for them.
-/
import Derived.Test.YtngnehlmbipabaaG28Backs
set_option linter.unusedSimpArgs false
set_option linter.unusedVariables false
namespace Go.Proofs.Ytngnehlmbipabaa
theorem SmC.bd {xs ys : List Int} (h : SmC xs ys) (x : Int) : -60000 ≤ (valS xs ys x).1 ∧ (valS xs ys x).2 ≤ 60000 := by
  rcases h.where_ x with ⟨-, e⟩ | ⟨-, e⟩ | ⟨k, q1, q2, q3, e⟩
  · rw [e]
    have := h.by_ 0
    exact ⟨this.1, this.2⟩
  · rw [e]
    have := h.by_ (xs.length - 1)
    exact ⟨this.1, this.2⟩
  · rw [e]
    have := h.at_ q1 q2 (by omega)
    have a := h.by_ k
    have b := h.by_ (k + 1)
    omega
theorem SmC.okv {xs ys : List Int} (h : SmC xs ys) (x : Int) : okS ((valS xs ys x).1, (valS xs ys x).2) = true := by
  have a := h.bd x
  have b := h.near x
  exact (okS_iff _).2 ⟨(isQ_iff _).2 (by show _ ≤ (valS xs ys x).1 ∧ (valS xs ys x).1 ≤ _; omega), (isQ_iff _).2 (by show _ ≤ (valS xs ys x).2 ∧ (valS xs ys x).2 ≤ _; omega), b.1⟩
/-- Back of the value at a number has that number. -/
theorem backR_has {xs ys : List Int} {first : Int} {n lo ov k : Nat} (hk : k < n) (h1 : Least n (predV xs ys first (valS xs ys (first + k)).1 (valS xs ys (first + k)).2 true) lo) (h2 : Least n (predV xs ys first (valS xs ys (first + k)).1 (valS xs ys (first + k)).2 false) ov) :
    (backR first lo ov).2 = 0 ∧ (backR first lo ov).1.1 ≤ first + k ∧ first + k ≤ (backR first lo ov).1.2 := by
  have := (backR_test h1 h2 hk).2 ⟨Int.le_refl _, Int.le_refl _⟩
  exact ⟨this.1.1, this.1.2, this.2⟩
/-- What Back hands back lies in the curve. -/
theorem backR_rng {first : Int} {n lo ov : Nat} (h1 : lo ≤ n) (h2 : ov ≤ n) : ((backR first lo ov).2 = 0 ∧ first ≤ (backR first lo ov).1.1 ∧ (backR first lo ov).1.1 ≤ (backR first lo ov).1.2 ∧ (backR first lo ov).1.2 ≤ first + n - 1) ∨ (backR first lo ov).2 = 5 := by
  unfold backR
  by_cases e : ov ≤ lo
  · rw [if_pos e]
    exact Or.inr rfl
  · rw [if_neg e]
    refine Or.inl ⟨rfl, ?_, ?_, ?_⟩
    · show first ≤ first + (lo : Int)
      omega
    · show first + (lo : Int) ≤ first + ov - 1
      omega
    · show first + (ov : Int) - 1 ≤ first + n - 1
      omega
end Go.Proofs.Ytngnehlmbipabaa
