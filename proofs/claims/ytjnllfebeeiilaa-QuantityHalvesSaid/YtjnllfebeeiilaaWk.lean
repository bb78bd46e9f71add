/-
  The walks of the law's example, and of the law QuantityRounds.
-/
import Derived.Test.YtjnllfebeeiilaaWi
import Derived.Test.YtjnllfebeeiilaaWh
import Derived.Test.YtjnllfebeeiilaaWd
set_option linter.unusedSimpArgs false
set_option linter.unusedVariables false
namespace Go.Proofs.Ytjnllfebeeiilaa
open Go.RowKit

theorem ex_floor : numS (-7) 1 2 (dn (-7) 1 2) = (-4, 0) := by decide +kernel
theorem ex_mul : mulS (-2, 3) (-5, 4) 1 = ((-15, 12), 0) := by decide +kernel
theorem ex_has : hasS (-15, 12) 0 = true := by decide +kernel
theorem ex1 (w : World) : Calls Try.prog 24 #[.int .i64 (-7), .int .i64 1, .int .i64 2] w fun e w' => e = .returned (.tuple #[.int .i64 (-4), .int .i64 0]) ∧ ∃ k, w.drewN k = w' := by
  have h := Floor_any (-7) 1 2 w
  rw [ex_floor] at h
  exact h
theorem ex2 (w : World) : Calls Try.prog 19 #[.agg #[.int .i64 (-2), .int .i64 3], .agg #[.int .i64 (-5), .int .i64 4], .int .i64 1] w fun e w' => e = .returned (.tuple #[.agg #[.int .i64 (-15), .int .i64 12], .int .i64 0]) ∧ Below w.heap.size w w' := by
  have h := Mul_any (-2, 3) (-5, 4) 1 w
  rw [ex_mul] at h
  exact h
theorem ex3 (w : World) : Calls Try.prog 17 #[.agg #[.int .i64 (-15), .int .i64 12], .int .i64 0] w fun e w' => e = .returned (.bool true) ∧ Below w.heap.size w w' := by
  have h := Has_any (-15, 12) 0 w
  rw [ex_has] at h
  exact h

set_option maxHeartbeats 400000 in
/-- The example of every statement. -/
theorem works_any (w : World) : Calls Try.prog 18 #[] w fun e w' => e = .returned (.bool true) ∧ Below w.heap.size w w' := by
  go_enter Try.func18, Try.ntmps18
  go_wp2_with (first | (go_at_call 24; refine (ex1 _).mono ?_; rintro e w' ⟨rfl, k, rfl⟩) | (go_at_call 19; refine (ex2 _).mono ?_; rintro e w1 ⟨rfl, hb1⟩) | (go_at_call 17; refine (ex3 _).mono ?_; rintro e w2 ⟨rfl, hb2⟩))
  go_ret
  exact ⟨rfl, (by repeat' (first | exact Below.refl _ _ | assumption | apply bDrewN | apply bDrew | apply bAlloc | (refine bSet ?_ ?_ _) | (refine bStep ?_ (by assumption)) | omega | (simp <;> omega)))⟩

set_option maxHeartbeats 400000 in
theorem RPoint_any (x : Int) (w : World) : Calls Try.prog 31 #[.int .i64 x] w fun e w' => e = .returned (.tuple #[.agg #[.int .i64 (pointS x).1.1, .int .i64 (pointS x).1.2], .int .i64 (pointS x).2]) ∧ Below w.heap.size w w' := by
  unfold pointS E2
  cases h : isQ x
  · go_enter Try.func31, Try.ntmps31
    go_wp2_with (go_at_call 81; refine (Is_any _ _).mono ?_; rintro e w' ⟨rfl, rfl⟩)
    exact bodyPost_ret (v := .tuple #[.agg #[.int .i64 0, .int .i64 0], .int .i64 2]) (by simp only [results, Try.results31]; go_simp) rfl ⟨rfl, (by repeat' (first | exact Below.refl _ _ | assumption | apply bDrewN | apply bDrew | apply bAlloc | (refine bSet ?_ ?_ _) | (refine bStep ?_ (by assumption)) | omega | (simp <;> omega)))⟩
  · go_enter Try.func31, Try.ntmps31
    go_wp2_with (go_at_call 81; refine (Is_any _ _).mono ?_; rintro e w' ⟨rfl, rfl⟩)
    exact bodyPost_ret (v := .tuple #[.agg #[.int .i64 x, .int .i64 x], .int .i64 0]) (by simp only [results, Try.results31]; go_simp) rfl ⟨rfl, (by repeat' (first | exact Below.refl _ _ | assumption | apply bDrewN | apply bDrew | apply bAlloc | (refine bSet ?_ ?_ _) | (refine bStep ?_ (by assumption)) | omega | (simp <;> omega)))⟩

set_option maxHeartbeats 1000000 in
theorem QuantityRounds_walk (x : Int) (_ : (Lit.int .i64 x).wf = true) (n : Int) (_ : (Lit.int .i64 n).wf = true) (d : Int) (_ : (Lit.int .i64 d).wf = true) (w : World) : Calls Try.prog 5 #[.int .i64 x, .int .i64 n, .int .i64 d] w fun e w' => e = .returned (.bool true) ∧ Below w.heap.size w w' := by
  have F := Lib.hid (fun w => Floor_any x n d w)
  have F' := Lib.hid (fun w => RFloor_any x n d w)
  have C := Lib.hid (fun w => Ceil_any x n d w)
  have C' := Lib.hid (fun w => RCeil_any x n d w)
  have R := Lib.hid (fun w => Round_any x n d w)
  have R' := Lib.hid (fun w => RRound_any x n d w)
  have P := Lib.hid (fun w => Point_any x w)
  have P' := Lib.hid (fun w => RPoint_any x w)
  generalize numS x n d (dn x n d) = f at *
  generalize numS x n d (up x n d) = c at *
  generalize numS x n d (rnd x n d) = r at *
  generalize pointS x = p at *
  go_enter Try.func5, Try.ntmps5
  go_wp2_with (first | (go_at_call 24; refine (F.out _).mono ?_; rintro e w' ⟨rfl, k, rfl⟩) | (go_at_call 25; refine (F'.out _).mono ?_; rintro e w' ⟨rfl, k, rfl⟩) | (go_at_call 26; refine (C.out _).mono ?_; rintro e w' ⟨rfl, k, rfl⟩) | (go_at_call 27; refine (C'.out _).mono ?_; rintro e w' ⟨rfl, k, rfl⟩) | (go_at_call 28; refine (R.out _).mono ?_; rintro e w' ⟨rfl, k, rfl⟩) | (go_at_call 29; refine (R'.out _).mono ?_; rintro e w' ⟨rfl, k, rfl⟩) | (go_at_call 30; refine (P.out _).mono ?_; rintro e w1 ⟨rfl, hb1⟩) | (go_at_call 31; refine (P'.out _).mono ?_; rintro e w2 ⟨rfl, hb2⟩; obtain ⟨hcw2, hfw2⟩ := bcell hb2; have hzw2 := Below.size hb2; (try simp at hzw2); have hzw20 : w1.heap.size < w2.heap.size := (by omega)) | (go_at_call 18; refine (works_any _).mono ?_; rintro e w3 ⟨rfl, hb3⟩))
  go_ret
  exact ⟨rfl, (by repeat' (first | exact Below.refl _ _ | assumption | apply bDrewN | apply bDrew | apply bAlloc | (refine bSet ?_ ?_ _) | (refine bStep ?_ (by assumption)) | omega | (simp <;> omega)))⟩

end Go.Proofs.Ytjnllfebeeiilaa
