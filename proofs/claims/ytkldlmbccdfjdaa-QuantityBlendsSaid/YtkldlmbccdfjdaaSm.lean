/-
  The walks of span and number: the spans and numbers of the laws without a reference.
-/
import Derived.Test.YtkldlmbccdfjdaaB2
import Derived.Test.YtkldlmbccdfjdaaRows
set_option linter.unusedSimpArgs false
set_option linter.unusedVariables false
namespace Go.Proofs.Ytkldlmbccdfjdaa
open Go.RowKit

/-- How wide a small span is. -/
def lenOf (len : Int) : Int := if len < 0 then -(len + 1) else len
def spanOf (lo len : Int) : Int × Int := (lo, lo + lenOf len)
def numOf (lo len at_ : Int) : Int := lo + at_ % (lo + lenOf len - lo + 1)
theorem lenOf_bd {len : Int} (h1 : -32768 ≤ len) (h2 : len ≤ 32767) : 0 ≤ lenOf len ∧ lenOf len ≤ 32767 := by
  unfold lenOf; split <;> omega

set_option maxHeartbeats 400000 in
theorem span_any (lo len at_ : Int) (w : World) (h1 : -32768 ≤ lo) (h2 : lo ≤ 32767) (h3 : -32768 ≤ len) (h4 : len ≤ 32767) :
    Calls Try.prog 17 #[.agg #[.int .i16 lo, .int .i16 len, .int .u16 at_]] w fun e w' => e = .returned (.agg #[.int .i64 (spanOf lo len).1, .int .i64 (spanOf lo len).2]) ∧ Below w.heap.size w w' := by
  by_cases h : len < 0
  · have e : spanOf lo len = (lo, lo + -(len + 1)) := by simp [spanOf, lenOf, h]
    rw [e]; clear e
    go_enter Try.func17, Try.ntmps17
    go_wp2
    exact bodyPost_ret (v := .agg #[.int .i64 lo, .int .i64 (lo + -(len + 1))]) (by simp only [results, Try.results17]; go_simp) rfl ⟨rfl, (by repeat' (first | exact Below.refl _ _ | assumption | apply bDrewN | apply bDrew | apply bAlloc | (refine bSet ?_ ?_ _) | (refine bStep ?_ (by assumption)) | omega | (simp <;> omega)))⟩
  · have e : spanOf lo len = (lo, lo + len) := by simp [spanOf, lenOf, h]
    rw [e]; clear e
    go_enter Try.func17, Try.ntmps17
    go_wp2
    exact bodyPost_ret (v := .agg #[.int .i64 lo, .int .i64 (lo + len)]) (by simp only [results, Try.results17]; go_simp) rfl ⟨rfl, (by repeat' (first | exact Below.refl _ _ | assumption | apply bDrewN | apply bDrew | apply bAlloc | (refine bSet ?_ ?_ _) | (refine bStep ?_ (by assumption)) | omega | (simp <;> omega)))⟩

end Go.Proofs.Ytkldlmbccdfjdaa
