/-
  The walks of span and number: the spans and numbers of the laws without a reference.
-/
import Derived.Test.YtjnllfebeeiilaaB2
import Derived.Test.YtjnllfebeeiilaaRows
set_option linter.unusedSimpArgs false
set_option linter.unusedVariables false
namespace Go.Proofs.Ytjnllfebeeiilaa
open Go.RowKit

/-- How wide a small span is. -/
def lenOf (len : Int) : Int := if len < 0 then -(len + 1) else len
def spanOf (lo len : Int) : Int × Int := (lo, lo + lenOf len)
def numOf (lo len at_ : Int) : Int := lo + at_ % (lo + lenOf len - lo + 1)
theorem lenOf_bd {len : Int} (h1 : -32768 ≤ len) (h2 : len ≤ 32767) : 0 ≤ lenOf len ∧ lenOf len ≤ 32767 := by
  unfold lenOf; split <;> omega

set_option maxHeartbeats 400000 in
theorem span_any (lo len at_ : Int) (w : World) (h1 : -32768 ≤ lo) (h2 : lo ≤ 32767) (h3 : -32768 ≤ len) (h4 : len ≤ 32767) :
    Calls Try.prog 13 #[.agg #[.int .i16 lo, .int .i16 len, .int .u16 at_]] w fun e w' => e = .returned (.agg #[.int .i64 (spanOf lo len).1, .int .i64 (spanOf lo len).2]) ∧ Below w.heap.size w w' := by
  by_cases h : len < 0
  · have e : spanOf lo len = (lo, lo + -(len + 1)) := by simp [spanOf, lenOf, h]
    rw [e]; clear e
    go_enter Try.func13, Try.ntmps13
    go_wp2
    exact bodyPost_ret (v := .agg #[.int .i64 lo, .int .i64 (lo + -(len + 1))]) (by simp only [results, Try.results13]; go_simp) rfl ⟨rfl, (by repeat' (first | exact Below.refl _ _ | assumption | apply bDrewN | apply bDrew | apply bAlloc | (refine bSet ?_ ?_ _) | (refine bStep ?_ (by assumption)) | omega | (simp <;> omega)))⟩
  · have e : spanOf lo len = (lo, lo + len) := by simp [spanOf, lenOf, h]
    rw [e]; clear e
    go_enter Try.func13, Try.ntmps13
    go_wp2
    exact bodyPost_ret (v := .agg #[.int .i64 lo, .int .i64 (lo + len)]) (by simp only [results, Try.results13]; go_simp) rfl ⟨rfl, (by repeat' (first | exact Below.refl _ _ | assumption | apply bDrewN | apply bDrew | apply bAlloc | (refine bSet ?_ ?_ _) | (refine bStep ?_ (by assumption)) | omega | (simp <;> omega)))⟩

set_option maxHeartbeats 400000 in
theorem number_small (lo len at_ : Int) (w : World) (h1 : -32768 ≤ lo) (h2 : lo ≤ 32767) (h3 : -32768 ≤ len) (h4 : len ≤ 32767) (h5 : 0 ≤ at_) (h6 : at_ ≤ 65535) :
    Calls Try.prog 16 #[.agg #[.int .i16 lo, .int .i16 len, .int .u16 at_]] w fun e w' => e = .returned (.int .i64 (numOf lo len at_)) ∧ Below w.heap.size w w' := by
  have hl := lenOf_bd h3 h4
  obtain ⟨l1, l2⟩ := hl
  have H := Lib.hid (fun w => span_any lo len at_ w h1 h2 h3 h4)
  unfold spanOf at H
  unfold numOf
  generalize lenOf len = L at *
  have m1 : 0 ≤ at_ % (lo + L - lo + 1) := Int.emod_nonneg _ (by omega)
  have m2 : at_ % (lo + L - lo + 1) ≤ 65535 := by have := Int.emod_lt_of_pos at_ (show 0 < lo + L - lo + 1 by omega); omega
  go_enter Try.func16, Try.ntmps16
  go_wp2_with (go_at_call 13; refine (H.out _).mono ?_; rintro e w1 ⟨rfl, hb⟩; obtain ⟨hcw1, hfw1⟩ := bcell hb; have hzw1 := Below.size hb; (try simp at hzw1); have hzw10 : w.heap.size < w1.heap.size := (by omega))
  go_quiet (fail)
  go_wp2
  go_ret
  exact ⟨rfl, (by repeat' (first | exact Below.refl _ _ | assumption | apply bDrewN | apply bDrew | apply bAlloc | (refine bSet ?_ ?_ _) | (refine bStep ?_ (by assumption)) | omega | (simp <;> omega)))⟩

end Go.Proofs.Ytjnllfebeeiilaa
