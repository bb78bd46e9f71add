/-
  Back of a curve's own value, and of any valid span, as the law asks for them.
-/
import Derived.Test.YtngnehlmbipabaaG29Backs
set_option linter.unusedSimpArgs false
set_option linter.unusedVariables false
namespace Go.Proofs.Ytngnehlmbipabaa
open Go.RowKit
theorem BackV_ok (bu ou cu bv ov cv n : Nat) (xs ys : List Int) (x0 last p : Int) (w : World) (hS : SmC xs ys) (hC : checkC xs ys = 0) (hf : xs.getD 0 0 = x0) (hl : xs.getD (xs.length - 1) 0 = last) (hn : last - x0 + 1 = (n : Nat)) (hp : x0 ≤ p ∧ p ≤ last) (hA : IntAt (some ⟨bu, ou, none⟩) xs w) (hB : IntAt (some ⟨bv, ov, none⟩) ys w) :
    Calls Try.prog 15 #[(.agg #[.slice (some ⟨bu, ou, none⟩) xs.length cu, .slice (some ⟨bv, ov, none⟩) xs.length cv]), .agg #[.int .i64 (valS xs ys p).1, .int .i64 (valS xs ys p).2]] w fun e w' => (∃ b1 b2, e = .returned (.tuple #[.agg #[.int .i64 b1, .int .i64 b2], .int .i64 0]) ∧ hasS (b1, b2) p = true) ∧ Below w.heap.size w w' := by
  have hb0 := hS.bx 0
  have hb1 := hS.bx (xs.length - 1)
  have hm := predV_mono hS (xs.getD 0 0) (valS xs ys p).1 (valS xs ys p).2
  have hr := Back_ok bu ou cu bv ov cv n xs ys (valS xs ys p).1 (valS xs ys p).2 w hC (hS.okv p) (by rw [hf, hl]; exact hn) hA hB hm
  refine hr.mono ?_
  rintro e w' ⟨⟨lo, ov2, rfl, h1, h2⟩, hb⟩
  refine ⟨?_, hb⟩
  rw [hf] at h1 h2 ⊢
  rw [hf] at hb0
  rw [hl] at hb1
  obtain ⟨k, hk⟩ : ∃ k : Nat, p = x0 + k := ⟨(p - x0).toNat, by omega⟩
  subst hk
  have hk2 : k < n := by omega
  have q := backR_has hk2 h1 h2
  have r := backR_rng (first := x0) h1.le h2.le
  refine ⟨_, _, by rw [q.1], ?_⟩
  have ho : okS (backR x0 lo ov2).1 = true := by
    rcases r with ⟨-, a, b, c⟩ | r
    · exact (okS_iff _).2 ⟨(isQ_iff _).2 (by omega), (isQ_iff _).2 (by omega), b⟩
    · rw [q.1] at r
      exact absurd r (by decide)
  have hh : hasS (backR x0 lo ov2).1 (x0 + k) = true := by
    unfold hasS
    simp only [ho, Bool.true_and, Bool.and_eq_true, decide_eq_true_eq]
    exact q.2
  exact hh
theorem BackT_ok (bu ou cu bv ov cv n : Nat) (xs ys : List Int) (x0 last s1 s2 : Int) (w : World) (hS : SmC xs ys) (hC : checkC xs ys = 0) (hs : okS (s1, s2) = true) (hf : xs.getD 0 0 = x0) (hl : xs.getD (xs.length - 1) 0 = last) (hn : last - x0 + 1 = (n : Nat)) (hA : IntAt (some ⟨bu, ou, none⟩) xs w) (hB : IntAt (some ⟨bv, ov, none⟩) ys w) :
    Calls Try.prog 15 #[(.agg #[.slice (some ⟨bu, ou, none⟩) xs.length cu, .slice (some ⟨bv, ov, none⟩) xs.length cv]), .agg #[.int .i64 s1, .int .i64 s2]] w fun e w' => (∃ b1 b2 g, e = .returned (.tuple #[.agg #[.int .i64 b1, .int .i64 b2], .int .i64 g]) ∧ ((g = 0 ∧ x0 ≤ b1 ∧ b1 ≤ b2 ∧ b2 ≤ last) ∨ g = 5) ∧ ∀ x, x0 ≤ x → x ≤ last → (((g = 0 ∧ b1 ≤ x) ∧ x ≤ b2) ↔ (s1 ≤ (valS xs ys x).1 ∧ (valS xs ys x).2 ≤ s2))) ∧ Below w.heap.size w w' := by
  have hm := predV_mono hS (xs.getD 0 0) s1 s2
  have hr := Back_ok bu ou cu bv ov cv n xs ys s1 s2 w hC hs (by rw [hf, hl]; exact hn) hA hB hm
  refine hr.mono ?_
  rintro e w' ⟨⟨lo, ov2, rfl, h1, h2⟩, hb⟩
  refine ⟨?_, hb⟩
  rw [hf] at h1 h2 ⊢
  have r := backR_rng (first := x0) h1.le h2.le
  refine ⟨_, _, _, rfl, ?_, fun x hx1 hx2 => ?_⟩
  · rcases r with ⟨q, a, b, c⟩ | r
    · exact Or.inl ⟨q, a, b, by omega⟩
    · exact Or.inr r
  · obtain ⟨k, hk⟩ : ∃ k : Nat, x = x0 + k := ⟨(x - x0).toNat, by omega⟩
    subst hk
    exact backR_test h1 h2 (show k < n by omega)

end Go.Proofs.Ytngnehlmbipabaa
