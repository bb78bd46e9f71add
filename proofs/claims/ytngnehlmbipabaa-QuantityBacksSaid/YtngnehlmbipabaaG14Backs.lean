/-
  The walks of the law's example, and of the law QuantityRounds.
-/
import Derived.Test.YtngnehlmbipabaaG4Backs
import Derived.Test.YtngnehlmbipabaaG13Backs
import Derived.Test.YtngnehlmbipabaaG5Backs
import Derived.Test.YtngnehlmbipabaaRows
set_option linter.unusedSimpArgs false
set_option linter.unusedVariables false
namespace Go.Proofs.Ytngnehlmbipabaa
open Go.RowKit

theorem ex_floor : numS (-7) 1 2 (dn (-7) 1 2) = (-4, 0) := by decide +kernel
theorem ex_mul : mulS (-2, 3) (-5, 4) 1 = ((-15, 12), 0) := by decide +kernel
theorem ex_has : hasS (-15, 12) 0 = true := by decide +kernel
theorem ex1 (w : World) : Calls Try.prog 37 #[.int .i64 (-7), .int .i64 1, .int .i64 2] w fun e w' => e = .returned (.tuple #[.int .i64 (-4), .int .i64 0]) ∧ ∃ k, w.drewN k = w' := by
  have h := Floor_any (-7) 1 2 w
  rw [ex_floor] at h
  exact h
theorem ex2 (w : World) : Calls Try.prog 38 #[.agg #[.int .i64 (-2), .int .i64 3], .agg #[.int .i64 (-5), .int .i64 4], .int .i64 1] w fun e w' => e = .returned (.tuple #[.agg #[.int .i64 (-15), .int .i64 12], .int .i64 0]) ∧ Below w.heap.size w w' := by
  have h := Mul_any (-2, 3) (-5, 4) 1 w
  rw [ex_mul] at h
  exact h
theorem ex3 (w : World) : Calls Try.prog 16 #[.agg #[.int .i64 (-15), .int .i64 12], .int .i64 0] w fun e w' => e = .returned (.bool true) ∧ Below w.heap.size w w' := by
  have h := Has_any (-15, 12) 0 w
  rw [ex_has] at h
  exact h

set_option maxHeartbeats 400000 in
/-- The example of every statement. -/
theorem works_any (w : World) : Calls Try.prog 6 #[] w fun e w' => e = .returned (.bool true) ∧ Below w.heap.size w w' := by
  go_enter Try.func6, Try.ntmps6
  go_wp2_with (first | (go_at_call 37; refine (ex1 _).mono ?_; rintro e w' ⟨rfl, k, rfl⟩) | (go_at_call 38; refine (ex2 _).mono ?_; rintro e w1 ⟨rfl, hb1⟩) | (go_at_call 16; refine (ex3 _).mono ?_; rintro e w2 ⟨rfl, hb2⟩))
  go_ret
  exact ⟨rfl, (by repeat' (first | exact Below.refl _ _ | assumption | apply bDrewN | apply bDrew | apply bAlloc | (refine bSet ?_ ?_ _) | (refine bStep ?_ (by assumption)) | omega | (simp <;> omega)))⟩

end Go.Proofs.Ytngnehlmbipabaa

/-
  The walks of span and number: the spans and numbers of the laws without a reference.
-/
set_option linter.unusedSimpArgs false
set_option linter.unusedVariables false
namespace Go.Proofs.Ytngnehlmbipabaa
open Go.RowKit

/-- How wide a small span is. -/
def lenOf (len : Int) : Int := if len < 0 then -(len + 1) else len
def spanOf (lo len : Int) : Int × Int := (lo, lo + lenOf len)
def numOf (lo len at_ : Int) : Int := lo + at_ % (lo + lenOf len - lo + 1)
theorem lenOf_bd {len : Int} (h1 : -32768 ≤ len) (h2 : len ≤ 32767) : 0 ≤ lenOf len ∧ lenOf len ≤ 32767 := by
  unfold lenOf; split <;> omega

set_option maxHeartbeats 400000 in
theorem span_any (lo len at_ : Int) (w : World) (h1 : -32768 ≤ lo) (h2 : lo ≤ 32767) (h3 : -32768 ≤ len) (h4 : len ≤ 32767) :
    Calls Try.prog 17 #[.agg #[.int .i16 lo, .int .i16 len, .int .u16 at_]] w fun e w' => e = .returned (.agg #[.int .i64 (spanOf lo len).1, .int .i64 (spanOf lo len).2]) ∧ Below w.heap.size w w' := by
  by_cases h : len < 0
  · have e : spanOf lo len = (lo, lo + -(len + 1)) := by simp [spanOf, lenOf, h]
    rw [e]; clear e
    go_enter Try.func17, Try.ntmps17
    go_wp2
    exact bodyPost_ret (v := .agg #[.int .i64 lo, .int .i64 (lo + -(len + 1))]) (by simp only [results, Try.results17]; go_simp) rfl ⟨rfl, (by repeat' (first | exact Below.refl _ _ | assumption | apply bDrewN | apply bDrew | apply bAlloc | (refine bSet ?_ ?_ _) | (refine bStep ?_ (by assumption)) | omega | (simp <;> omega)))⟩
  · have e : spanOf lo len = (lo, lo + len) := by simp [spanOf, lenOf, h]
    rw [e]; clear e
    go_enter Try.func17, Try.ntmps17
    go_wp2
    exact bodyPost_ret (v := .agg #[.int .i64 lo, .int .i64 (lo + len)]) (by simp only [results, Try.results17]; go_simp) rfl ⟨rfl, (by repeat' (first | exact Below.refl _ _ | assumption | apply bDrewN | apply bDrew | apply bAlloc | (refine bSet ?_ ?_ _) | (refine bStep ?_ (by assumption)) | omega | (simp <;> omega)))⟩

end Go.Proofs.Ytngnehlmbipabaa
