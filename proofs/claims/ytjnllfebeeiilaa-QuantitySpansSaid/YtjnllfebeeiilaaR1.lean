/-
  The walks of the reference's functions of spans (all but corners' users): Valid, span, Neg, Add, Sub, Grow, Meet, Hull, Has, Inside, Width, Middle, Clip, check, Check.
-/
import Derived.Test.YtjnllfebeeiilaaWh
set_option linter.unusedSimpArgs false
set_option linter.unusedVariables false
namespace Go.Proofs.Ytjnllfebeeiilaa
open Go.RowKit

set_option maxHeartbeats 400000 in
theorem Valid_any (a b : Int) (w : World) : Calls Try.prog 114 #[.agg #[.int .i64 a, .int .i64 b]] w fun e w' => e = .returned (.bool (okS (a, b))) ∧ Below w.heap.size w w' := by
  have hq : okS (a, b) = (isQ a && isQ b && decide (a ≤ b)) := rfl
  rw [hq]; clear hq
  cases h1 : isQ a <;> cases h2 : isQ b <;> cases h3 : decide (a ≤ b)
  all_goals
    go_enter Try.func114, Try.ntmps114
    go_wp2_with (go_at_call 81; refine (Is_any _ _).mono ?_; rintro e w' ⟨rfl, rfl⟩)
    go_ret
    exact ⟨rfl, (by repeat' (first | exact Below.refl _ _ | assumption | apply bDrewN | apply bDrew | apply bAlloc | (refine bSet ?_ ?_ _) | (refine bStep ?_ (by assumption)) | omega | (simp <;> omega)))⟩
set_option maxHeartbeats 400000 in
theorem rspan_any (a b : Int) (w : World) : Calls Try.prog 115 #[.int .i64 a, .int .i64 b] w fun e w' => e = .returned (.tuple #[.agg #[.int .i64 (spanS (a, b)).1.1, .int .i64 (spanS (a, b)).1.2], .int .i64 (spanS (a, b)).2]) ∧ Below w.heap.size w w' := by
  cases h1 : isQ a
  · rw [spanS_n1 h1]
    go_enter Try.func115, Try.ntmps115
    go_wp2_with (go_at_call 81; refine (Is_any _ _).mono ?_; rintro e w' ⟨rfl, rfl⟩)
    exact bodyPost_ret (v := .tuple #[.agg #[.int .i64 (0), .int .i64 (0)], .int .i64 4]) (by simp only [results, Try.results115]; go_simp) rfl ⟨rfl, (by repeat' (first | exact Below.refl _ _ | assumption | apply bDrewN | apply bDrew | apply bAlloc | (refine bSet ?_ ?_ _) | (refine bStep ?_ (by assumption)) | omega | (simp <;> omega)))⟩
  cases h2 : isQ b
  · rw [spanS_n2 h2]
    go_enter Try.func115, Try.ntmps115
    go_wp2_with (go_at_call 81; refine (Is_any _ _).mono ?_; rintro e w' ⟨rfl, rfl⟩)
    exact bodyPost_ret (v := .tuple #[.agg #[.int .i64 (0), .int .i64 (0)], .int .i64 4]) (by simp only [results, Try.results115]; go_simp) rfl ⟨rfl, (by repeat' (first | exact Below.refl _ _ | assumption | apply bDrewN | apply bDrew | apply bAlloc | (refine bSet ?_ ?_ _) | (refine bStep ?_ (by assumption)) | omega | (simp <;> omega)))⟩
  rw [spanS_yes h1 h2]
  go_enter Try.func115, Try.ntmps115
  go_wp2_with (go_at_call 81; refine (Is_any _ _).mono ?_; rintro e w' ⟨rfl, rfl⟩)
  exact bodyPost_ret (v := .tuple #[.agg #[.int .i64 (a), .int .i64 (b)], .int .i64 0]) (by simp only [results, Try.results115]; go_simp) rfl ⟨rfl, (by repeat' (first | exact Below.refl _ _ | assumption | apply bDrewN | apply bDrew | apply bAlloc | (refine bSet ?_ ?_ _) | (refine bStep ?_ (by assumption)) | omega | (simp <;> omega)))⟩

theorem neg_span {s : Int × Int} (h : okS s = true) : negS s = spanS (-s.2, -s.1) := by
  rw [negS_yes h]
  obtain ⟨h1, h2, h3⟩ := okS_bd h
  exact (spanS_yes ((isQ_iff _).2 (by dsimp only; omega)) ((isQ_iff _).2 (by dsimp only; omega))).symm

set_option maxHeartbeats 400000 in
theorem RNeg_any (s : Int × Int) (w : World) : Calls Try.prog 102 #[.agg #[.int .i64 s.1, .int .i64 s.2]] w fun e w' => e = .returned (.tuple #[.agg #[.int .i64 (negS s).1.1, .int .i64 (negS s).1.2], .int .i64 (negS s).2]) ∧ Below w.heap.size w w' := by
  cases h : okS s
  · rw [negS_no h]
    obtain ⟨a1, a2⟩ := s
    go_enter Try.func102, Try.ntmps102
    go_wp2_with (first | (go_at_call 114; refine (Valid_any _ _ _).mono ?_; rintro e w1 ⟨rfl, hb⟩; obtain ⟨hcw1, hfw1⟩ := bcell hb; have hzw1 := Below.size hb; (try simp at hzw1); have hzw10 : w.heap.size < w1.heap.size := (by omega); have hzw11 : w.heap.size + 1 < w1.heap.size := (by omega)) | (go_at_call 81; refine (Is_any _ _).mono ?_; rintro e w' ⟨rfl, rfl⟩))
    exact bodyPost_ret (v := .tuple #[.agg #[.int .i64 (0), .int .i64 (0)], .int .i64 2]) (by simp only [results, Try.results102]; go_simp) rfl ⟨rfl, (by repeat' (first | exact Below.refl _ _ | assumption | apply bDrewN | apply bDrew | apply bAlloc | (refine bSet ?_ ?_ _) | (refine bStep ?_ (by assumption)) | omega | (simp <;> omega)))⟩
  rw [neg_span h]
  obtain ⟨h1, h2, h3⟩ := okS_bd h
  obtain ⟨a1, a2⟩ := s
  dsimp only at *
  go_enter Try.func102, Try.ntmps102
  go_wp2_with (first | (go_at_call 114; refine (Valid_any _ _ _).mono ?_; rintro e w1 ⟨rfl, hb⟩; obtain ⟨hcw1, hfw1⟩ := bcell hb; have hzw1 := Below.size hb; (try simp at hzw1); have hzw10 : w.heap.size < w1.heap.size := (by omega); have hzw11 : w.heap.size + 1 < w1.heap.size := (by omega)) | (go_at_call 81; refine (Is_any _ _).mono ?_; rintro e w' ⟨rfl, rfl⟩) | (go_at_call 115; refine (rspan_any _ _ _).mono ?_; rintro e w3 ⟨rfl, hb3⟩; obtain ⟨hcw3, hfw3⟩ := bcell hb3; have hzw3 := Below.size hb3; (try simp at hzw3); have hzw30 : w.heap.size < w3.heap.size := (by omega); have hzw31 : w.heap.size + 1 < w3.heap.size := (by omega)))
  generalize spanS (-a2, -a1) = S
  exact bodyPost_ret (v := .tuple #[.agg #[.int .i64 (S.1.1), .int .i64 (S.1.2)], .int .i64 S.2]) (by simp only [results, Try.results102]; go_simp) rfl ⟨rfl, (by repeat' (first | exact Below.refl _ _ | assumption | apply bDrewN | apply bDrew | apply bAlloc | (refine bSet ?_ ?_ _) | (refine bStep ?_ (by assumption)) | omega | (simp <;> omega)))⟩

set_option maxHeartbeats 400000 in
theorem RGrow_any (s : Int × Int) (d : Int) (w : World) : Calls Try.prog 108 #[.agg #[.int .i64 s.1, .int .i64 s.2], .int .i64 d] w fun e w' => e = .returned (.tuple #[.agg #[.int .i64 (growS s d).1.1, .int .i64 (growS s d).1.2], .int .i64 (growS s d).2]) ∧ Below w.heap.size w w' := by
  cases h : okS s
  · rw [growS_n1 h]
    obtain ⟨a1, a2⟩ := s
    go_enter Try.func108, Try.ntmps108
    go_wp2_with (first | (go_at_call 114; refine (Valid_any _ _ _).mono ?_; rintro e w1 ⟨rfl, hb⟩; obtain ⟨hcw1, hfw1⟩ := bcell hb; have hzw1 := Below.size hb; (try simp at hzw1); have hzw10 : w.heap.size < w1.heap.size := (by omega); have hzw11 : w.heap.size + 1 < w1.heap.size := (by omega)) | (go_at_call 81; refine (Is_any _ _).mono ?_; rintro e w' ⟨rfl, rfl⟩))
    exact bodyPost_ret (v := .tuple #[.agg #[.int .i64 (0), .int .i64 (0)], .int .i64 2]) (by simp only [results, Try.results108]; go_simp) rfl ⟨rfl, (by repeat' (first | exact Below.refl _ _ | assumption | apply bDrewN | apply bDrew | apply bAlloc | (refine bSet ?_ ?_ _) | (refine bStep ?_ (by assumption)) | omega | (simp <;> omega)))⟩
  by_cases hd : d < 0
  · rw [growS_n2 hd]
    obtain ⟨a1, a2⟩ := s
    go_enter Try.func108, Try.ntmps108
    go_wp2_with (first | (go_at_call 114; refine (Valid_any _ _ _).mono ?_; rintro e w1 ⟨rfl, hb⟩; obtain ⟨hcw1, hfw1⟩ := bcell hb; have hzw1 := Below.size hb; (try simp at hzw1); have hzw10 : w.heap.size < w1.heap.size := (by omega); have hzw11 : w.heap.size + 1 < w1.heap.size := (by omega)) | (go_at_call 81; refine (Is_any _ _).mono ?_; rintro e w' ⟨rfl, rfl⟩))
    exact bodyPost_ret (v := .tuple #[.agg #[.int .i64 (0), .int .i64 (0)], .int .i64 2]) (by simp only [results, Try.results108]; go_simp) rfl ⟨rfl, (by repeat' (first | exact Below.refl _ _ | assumption | apply bDrewN | apply bDrew | apply bAlloc | (refine bSet ?_ ?_ _) | (refine bStep ?_ (by assumption)) | omega | (simp <;> omega)))⟩
  cases hq : isQ d
  · rw [growS_n3 hq]
    obtain ⟨a1, a2⟩ := s
    go_enter Try.func108, Try.ntmps108
    go_wp2_with (first | (go_at_call 114; refine (Valid_any _ _ _).mono ?_; rintro e w1 ⟨rfl, hb⟩; obtain ⟨hcw1, hfw1⟩ := bcell hb; have hzw1 := Below.size hb; (try simp at hzw1); have hzw10 : w.heap.size < w1.heap.size := (by omega); have hzw11 : w.heap.size + 1 < w1.heap.size := (by omega)) | (go_at_call 81; refine (Is_any _ _).mono ?_; rintro e w' ⟨rfl, rfl⟩))
    exact bodyPost_ret (v := .tuple #[.agg #[.int .i64 (0), .int .i64 (0)], .int .i64 2]) (by simp only [results, Try.results108]; go_simp) rfl ⟨rfl, (by repeat' (first | exact Below.refl _ _ | assumption | apply bDrewN | apply bDrew | apply bAlloc | (refine bSet ?_ ?_ _) | (refine bStep ?_ (by assumption)) | omega | (simp <;> omega)))⟩
  rw [growS_yes h (by omega) hq]
  obtain ⟨q1, q2⟩ := (isQ_iff _).1 hq
  obtain ⟨h1, h2, h3⟩ := okS_bd h
  obtain ⟨a1, a2⟩ := s
  dsimp only at *
  go_enter Try.func108, Try.ntmps108
  go_wp2_with (first | (go_at_call 114; refine (Valid_any _ _ _).mono ?_; rintro e w1 ⟨rfl, hb⟩; obtain ⟨hcw1, hfw1⟩ := bcell hb; have hzw1 := Below.size hb; (try simp at hzw1); have hzw10 : w.heap.size < w1.heap.size := (by omega); have hzw11 : w.heap.size + 1 < w1.heap.size := (by omega)) | (go_at_call 81; refine (Is_any _ _).mono ?_; rintro e w' ⟨rfl, rfl⟩) | (go_at_call 115; refine (rspan_any _ _ _).mono ?_; rintro e w3 ⟨rfl, hb3⟩; obtain ⟨hcw3, hfw3⟩ := bcell hb3; have hzw3 := Below.size hb3; (try simp at hzw3); have hzw30 : w.heap.size < w3.heap.size := (by omega); have hzw31 : w.heap.size + 1 < w3.heap.size := (by omega)))
  generalize spanS (a1 - d, a2 + d) = S
  exact bodyPost_ret (v := .tuple #[.agg #[.int .i64 (S.1.1), .int .i64 (S.1.2)], .int .i64 S.2]) (by simp only [results, Try.results108]; go_simp) rfl ⟨rfl, (by repeat' (first | exact Below.refl _ _ | assumption | apply bDrewN | apply bDrew | apply bAlloc | (refine bSet ?_ ?_ _) | (refine bStep ?_ (by assumption)) | omega | (simp <;> omega)))⟩

set_option maxHeartbeats 400000 in
theorem RAdd_any (a b : Int × Int) (w : World) : Calls Try.prog 46 #[.agg #[.int .i64 a.1, .int .i64 a.2], .agg #[.int .i64 b.1, .int .i64 b.2]] w fun e w' => e = .returned (.tuple #[.agg #[.int .i64 (addS a b).1.1, .int .i64 (addS a b).1.2], .int .i64 (addS a b).2]) ∧ Below w.heap.size w w' := by
  cases h1 : okS a
  · rw [addS_no (by simp [h1])]
    obtain ⟨a1, a2⟩ := a
    obtain ⟨b1, b2⟩ := b
    go_enter Try.func46, Try.ntmps46
    go_wp2_with (go_at_call 114; refine (Valid_any _ _ _).mono ?_; rintro e w1 ⟨rfl, hb⟩; obtain ⟨hcw1, hfw1⟩ := bcell hb; have hzw1 := Below.size hb; (try simp at hzw1); have hzw10 : w.heap.size < w1.heap.size := (by omega); have hzw11 : w.heap.size + 1 < w1.heap.size := (by omega); have hzw12 : w.heap.size + 1 + 1 < w1.heap.size := (by omega))
    exact bodyPost_ret (v := .tuple #[.agg #[.int .i64 (0), .int .i64 (0)], .int .i64 2]) (by simp only [results, Try.results46]; go_simp) rfl ⟨rfl, (by repeat' (first | exact Below.refl _ _ | assumption | apply bDrewN | apply bDrew | apply bAlloc | (refine bSet ?_ ?_ _) | (refine bStep ?_ (by assumption)) | omega | (simp <;> omega)))⟩
  cases h2 : okS b
  · rw [addS_no (by simp [h2])]
    obtain ⟨a1, a2⟩ := a
    obtain ⟨b1, b2⟩ := b
    go_enter Try.func46, Try.ntmps46
    go_wp2_with (go_at_call 114; refine (Valid_any _ _ _).mono ?_; rintro e w1 ⟨rfl, hb⟩; obtain ⟨hcw1, hfw1⟩ := bcell hb; have hzw1 := Below.size hb; (try simp at hzw1); have hzw10 : w.heap.size < w1.heap.size := (by omega); have hzw11 : w.heap.size + 1 < w1.heap.size := (by omega); have hzw12 : w.heap.size + 1 + 1 < w1.heap.size := (by omega))
    exact bodyPost_ret (v := .tuple #[.agg #[.int .i64 (0), .int .i64 (0)], .int .i64 2]) (by simp only [results, Try.results46]; go_simp) rfl ⟨rfl, (by repeat' (first | exact Below.refl _ _ | assumption | apply bDrewN | apply bDrew | apply bAlloc | (refine bSet ?_ ?_ _) | (refine bStep ?_ (by assumption)) | omega | (simp <;> omega)))⟩
  rw [addS_yes (by simp [h1, h2])]
  obtain ⟨p1, p2, p3⟩ := okS_bd h1
  obtain ⟨q1, q2, q3⟩ := okS_bd h2
  obtain ⟨a1, a2⟩ := a
  obtain ⟨b1, b2⟩ := b
  dsimp only at *
  go_enter Try.func46, Try.ntmps46
  go_wp2_with (first | (go_at_call 114; refine (Valid_any _ _ _).mono ?_; rintro e w1 ⟨rfl, hb⟩; obtain ⟨hcw1, hfw1⟩ := bcell hb; have hzw1 := Below.size hb; (try simp at hzw1); have hzw10 : w.heap.size < w1.heap.size := (by omega); have hzw11 : w.heap.size + 1 < w1.heap.size := (by omega); have hzw12 : w.heap.size + 1 + 1 < w1.heap.size := (by omega)) | (go_at_call 115; refine (rspan_any _ _ _).mono ?_; rintro e w3 ⟨rfl, hb3⟩; obtain ⟨hcw3, hfw3⟩ := bcell hb3; have hzw3 := Below.size hb3; (try simp at hzw3); have hzw30 : w.heap.size < w3.heap.size := (by omega); have hzw31 : w.heap.size + 1 < w3.heap.size := (by omega); have hzw32 : w.heap.size + 1 + 1 < w3.heap.size := (by omega)))
  generalize spanS (a1 + b1, a2 + b2) = S
  exact bodyPost_ret (v := .tuple #[.agg #[.int .i64 (S.1.1), .int .i64 (S.1.2)], .int .i64 S.2]) (by simp only [results, Try.results46]; go_simp) rfl ⟨rfl, (by repeat' (first | exact Below.refl _ _ | assumption | apply bDrewN | apply bDrew | apply bAlloc | (refine bSet ?_ ?_ _) | (refine bStep ?_ (by assumption)) | omega | (simp <;> omega)))⟩

set_option maxHeartbeats 400000 in
theorem RSub_any (a b : Int × Int) (w : World) : Calls Try.prog 47 #[.agg #[.int .i64 a.1, .int .i64 a.2], .agg #[.int .i64 b.1, .int .i64 b.2]] w fun e w' => e = .returned (.tuple #[.agg #[.int .i64 (subS a b).1.1, .int .i64 (subS a b).1.2], .int .i64 (subS a b).2]) ∧ Below w.heap.size w w' := by
  cases h1 : okS a
  · rw [subS_no (by simp [h1])]
    obtain ⟨a1, a2⟩ := a
    obtain ⟨b1, b2⟩ := b
    go_enter Try.func47, Try.ntmps47
    go_wp2_with (go_at_call 114; refine (Valid_any _ _ _).mono ?_; rintro e w1 ⟨rfl, hb⟩; obtain ⟨hcw1, hfw1⟩ := bcell hb; have hzw1 := Below.size hb; (try simp at hzw1); have hzw10 : w.heap.size < w1.heap.size := (by omega); have hzw11 : w.heap.size + 1 < w1.heap.size := (by omega); have hzw12 : w.heap.size + 1 + 1 < w1.heap.size := (by omega))
    exact bodyPost_ret (v := .tuple #[.agg #[.int .i64 (0), .int .i64 (0)], .int .i64 2]) (by simp only [results, Try.results47]; go_simp) rfl ⟨rfl, (by repeat' (first | exact Below.refl _ _ | assumption | apply bDrewN | apply bDrew | apply bAlloc | (refine bSet ?_ ?_ _) | (refine bStep ?_ (by assumption)) | omega | (simp <;> omega)))⟩
  cases h2 : okS b
  · rw [subS_no (by simp [h2])]
    obtain ⟨a1, a2⟩ := a
    obtain ⟨b1, b2⟩ := b
    go_enter Try.func47, Try.ntmps47
    go_wp2_with (go_at_call 114; refine (Valid_any _ _ _).mono ?_; rintro e w1 ⟨rfl, hb⟩; obtain ⟨hcw1, hfw1⟩ := bcell hb; have hzw1 := Below.size hb; (try simp at hzw1); have hzw10 : w.heap.size < w1.heap.size := (by omega); have hzw11 : w.heap.size + 1 < w1.heap.size := (by omega); have hzw12 : w.heap.size + 1 + 1 < w1.heap.size := (by omega))
    exact bodyPost_ret (v := .tuple #[.agg #[.int .i64 (0), .int .i64 (0)], .int .i64 2]) (by simp only [results, Try.results47]; go_simp) rfl ⟨rfl, (by repeat' (first | exact Below.refl _ _ | assumption | apply bDrewN | apply bDrew | apply bAlloc | (refine bSet ?_ ?_ _) | (refine bStep ?_ (by assumption)) | omega | (simp <;> omega)))⟩
  rw [subS_yes (by simp [h1, h2])]
  obtain ⟨p1, p2, p3⟩ := okS_bd h1
  obtain ⟨q1, q2, q3⟩ := okS_bd h2
  obtain ⟨a1, a2⟩ := a
  obtain ⟨b1, b2⟩ := b
  dsimp only at *
  go_enter Try.func47, Try.ntmps47
  go_wp2_with (first | (go_at_call 114; refine (Valid_any _ _ _).mono ?_; rintro e w1 ⟨rfl, hb⟩; obtain ⟨hcw1, hfw1⟩ := bcell hb; have hzw1 := Below.size hb; (try simp at hzw1); have hzw10 : w.heap.size < w1.heap.size := (by omega); have hzw11 : w.heap.size + 1 < w1.heap.size := (by omega); have hzw12 : w.heap.size + 1 + 1 < w1.heap.size := (by omega)) | (go_at_call 115; refine (rspan_any _ _ _).mono ?_; rintro e w3 ⟨rfl, hb3⟩; obtain ⟨hcw3, hfw3⟩ := bcell hb3; have hzw3 := Below.size hb3; (try simp at hzw3); have hzw30 : w.heap.size < w3.heap.size := (by omega); have hzw31 : w.heap.size + 1 < w3.heap.size := (by omega); have hzw32 : w.heap.size + 1 + 1 < w3.heap.size := (by omega)))
  generalize spanS (a1 - b2, a2 - b1) = S
  exact bodyPost_ret (v := .tuple #[.agg #[.int .i64 (S.1.1), .int .i64 (S.1.2)], .int .i64 S.2]) (by simp only [results, Try.results47]; go_simp) rfl ⟨rfl, (by repeat' (first | exact Below.refl _ _ | assumption | apply bDrewN | apply bDrew | apply bAlloc | (refine bSet ?_ ?_ _) | (refine bStep ?_ (by assumption)) | omega | (simp <;> omega)))⟩

set_option maxHeartbeats 400000 in
theorem RMeet_any (a b : Int × Int) (w : World) : Calls Try.prog 50 #[.agg #[.int .i64 a.1, .int .i64 a.2], .agg #[.int .i64 b.1, .int .i64 b.2]] w fun e w' => e = .returned (.tuple #[.agg #[.int .i64 (meetS a b).1.1, .int .i64 (meetS a b).1.2], .int .i64 (meetS a b).2]) ∧ Below w.heap.size w w' := by
  cases h1 : okS a
  · rw [meetS_no (by simp [h1])]
    obtain ⟨a1, a2⟩ := a
    obtain ⟨b1, b2⟩ := b
    go_enter Try.func50, Try.ntmps50
    go_wp2_with (go_at_call 114; refine (Valid_any _ _ _).mono ?_; rintro e w1 ⟨rfl, hb⟩; obtain ⟨hcw1, hfw1⟩ := bcell hb; have hzw1 := Below.size hb; (try simp at hzw1); have hzw10 : w.heap.size < w1.heap.size := (by omega); have hzw11 : w.heap.size + 1 < w1.heap.size := (by omega); have hzw12 : w.heap.size + 1 + 1 < w1.heap.size := (by omega))
    exact bodyPost_ret (v := .tuple #[.agg #[.int .i64 (0), .int .i64 (0)], .int .i64 2]) (by simp only [results, Try.results50]; go_simp) rfl ⟨rfl, (by repeat' (first | exact Below.refl _ _ | assumption | apply bDrewN | apply bDrew | apply bAlloc | (refine bSet ?_ ?_ _) | (refine bStep ?_ (by assumption)) | omega | (simp <;> omega)))⟩
  cases h2 : okS b
  · rw [meetS_no (by simp [h2])]
    obtain ⟨a1, a2⟩ := a
    obtain ⟨b1, b2⟩ := b
    go_enter Try.func50, Try.ntmps50
    go_wp2_with (go_at_call 114; refine (Valid_any _ _ _).mono ?_; rintro e w1 ⟨rfl, hb⟩; obtain ⟨hcw1, hfw1⟩ := bcell hb; have hzw1 := Below.size hb; (try simp at hzw1); have hzw10 : w.heap.size < w1.heap.size := (by omega); have hzw11 : w.heap.size + 1 < w1.heap.size := (by omega); have hzw12 : w.heap.size + 1 + 1 < w1.heap.size := (by omega))
    exact bodyPost_ret (v := .tuple #[.agg #[.int .i64 (0), .int .i64 (0)], .int .i64 2]) (by simp only [results, Try.results50]; go_simp) rfl ⟨rfl, (by repeat' (first | exact Below.refl _ _ | assumption | apply bDrewN | apply bDrew | apply bAlloc | (refine bSet ?_ ?_ _) | (refine bStep ?_ (by assumption)) | omega | (simp <;> omega)))⟩
  have h : (okS a && okS b) = true := by simp [h1, h2]
  obtain ⟨a1, a2⟩ := a
  obtain ⟨b1, b2⟩ := b
  obtain ⟨M, hM⟩ : ∃ M, max a1 b1 = M := ⟨_, rfl⟩
  obtain ⟨m, hm⟩ : ∃ m, min a2 b2 = m := ⟨_, rfl⟩
  have e1 : (if a1 < b1 then b1 else a1) = M := by rw [← hM, max_if]
  have e2 : (if b2 < a2 then b2 else a2) = m := by rw [← hm, min_if]

  by_cases hlt : m < M
  · rw [meetS_none h (by simpa [hM, hm] using hlt)]
    clear hM hm h
    go_enter Try.func50, Try.ntmps50
    go_wp2_with (go_at_call 114; refine (Valid_any _ _ _).mono ?_; rintro e w1 ⟨rfl, hb⟩; obtain ⟨hcw1, hfw1⟩ := bcell hb; have hzw1 := Below.size hb; (try simp at hzw1); have hzw10 : w.heap.size < w1.heap.size := (by omega); have hzw11 : w.heap.size + 1 < w1.heap.size := (by omega); have hzw12 : w.heap.size + 1 + 1 < w1.heap.size := (by omega))
    exact bodyPost_ret (v := .tuple #[.agg #[.int .i64 (0), .int .i64 (0)], .int .i64 5]) (by simp only [results, Try.results50]; go_simp) rfl ⟨rfl, (by repeat' (first | exact Below.refl _ _ | assumption | apply bDrewN | apply bDrew | apply bAlloc | (refine bSet ?_ ?_ _) | (refine bStep ?_ (by assumption)) | omega | (simp <;> omega)))⟩
  rw [meetS_yes h (by simpa [hM, hm] using hlt)]
  rw [hM, hm]
  clear hM hm h
  go_enter Try.func50, Try.ntmps50
  go_wp2_with (go_at_call 114; refine (Valid_any _ _ _).mono ?_; rintro e w1 ⟨rfl, hb⟩; obtain ⟨hcw1, hfw1⟩ := bcell hb; have hzw1 := Below.size hb; (try simp at hzw1); have hzw10 : w.heap.size < w1.heap.size := (by omega); have hzw11 : w.heap.size + 1 < w1.heap.size := (by omega); have hzw12 : w.heap.size + 1 + 1 < w1.heap.size := (by omega))
  exact bodyPost_ret (v := .tuple #[.agg #[.int .i64 (M), .int .i64 (m)], .int .i64 0]) (by simp only [results, Try.results50]; go_simp) rfl ⟨rfl, (by repeat' (first | exact Below.refl _ _ | assumption | apply bDrewN | apply bDrew | apply bAlloc | (refine bSet ?_ ?_ _) | (refine bStep ?_ (by assumption)) | omega | (simp <;> omega)))⟩

set_option maxHeartbeats 400000 in
theorem RHull_any (a b : Int × Int) (w : World) : Calls Try.prog 51 #[.agg #[.int .i64 a.1, .int .i64 a.2], .agg #[.int .i64 b.1, .int .i64 b.2]] w fun e w' => e = .returned (.tuple #[.agg #[.int .i64 (hullS a b).1.1, .int .i64 (hullS a b).1.2], .int .i64 (hullS a b).2]) ∧ Below w.heap.size w w' := by
  cases h1 : okS a
  · rw [hullS_no (by simp [h1])]
    obtain ⟨a1, a2⟩ := a
    obtain ⟨b1, b2⟩ := b
    go_enter Try.func51, Try.ntmps51
    go_wp2_with (go_at_call 114; refine (Valid_any _ _ _).mono ?_; rintro e w1 ⟨rfl, hb⟩; obtain ⟨hcw1, hfw1⟩ := bcell hb; have hzw1 := Below.size hb; (try simp at hzw1); have hzw10 : w.heap.size < w1.heap.size := (by omega); have hzw11 : w.heap.size + 1 < w1.heap.size := (by omega); have hzw12 : w.heap.size + 1 + 1 < w1.heap.size := (by omega))
    exact bodyPost_ret (v := .tuple #[.agg #[.int .i64 (0), .int .i64 (0)], .int .i64 2]) (by simp only [results, Try.results51]; go_simp) rfl ⟨rfl, (by repeat' (first | exact Below.refl _ _ | assumption | apply bDrewN | apply bDrew | apply bAlloc | (refine bSet ?_ ?_ _) | (refine bStep ?_ (by assumption)) | omega | (simp <;> omega)))⟩
  cases h2 : okS b
  · rw [hullS_no (by simp [h2])]
    obtain ⟨a1, a2⟩ := a
    obtain ⟨b1, b2⟩ := b
    go_enter Try.func51, Try.ntmps51
    go_wp2_with (go_at_call 114; refine (Valid_any _ _ _).mono ?_; rintro e w1 ⟨rfl, hb⟩; obtain ⟨hcw1, hfw1⟩ := bcell hb; have hzw1 := Below.size hb; (try simp at hzw1); have hzw10 : w.heap.size < w1.heap.size := (by omega); have hzw11 : w.heap.size + 1 < w1.heap.size := (by omega); have hzw12 : w.heap.size + 1 + 1 < w1.heap.size := (by omega))
    exact bodyPost_ret (v := .tuple #[.agg #[.int .i64 (0), .int .i64 (0)], .int .i64 2]) (by simp only [results, Try.results51]; go_simp) rfl ⟨rfl, (by repeat' (first | exact Below.refl _ _ | assumption | apply bDrewN | apply bDrew | apply bAlloc | (refine bSet ?_ ?_ _) | (refine bStep ?_ (by assumption)) | omega | (simp <;> omega)))⟩
  have h : (okS a && okS b) = true := by simp [h1, h2]
  obtain ⟨a1, a2⟩ := a
  obtain ⟨b1, b2⟩ := b
  obtain ⟨M, hM⟩ : ∃ M, max a2 b2 = M := ⟨_, rfl⟩
  obtain ⟨m, hm⟩ : ∃ m, min a1 b1 = m := ⟨_, rfl⟩
  have e1 : (if a2 < b2 then b2 else a2) = M := by rw [← hM, max_if]
  have e2 : (if b1 < a1 then b1 else a1) = m := by rw [← hm, min_if]

  rw [hullS_yes h]
  rw [hM, hm]
  clear hM hm h
  go_enter Try.func51, Try.ntmps51
  go_wp2_with (go_at_call 114; refine (Valid_any _ _ _).mono ?_; rintro e w1 ⟨rfl, hb⟩; obtain ⟨hcw1, hfw1⟩ := bcell hb; have hzw1 := Below.size hb; (try simp at hzw1); have hzw10 : w.heap.size < w1.heap.size := (by omega); have hzw11 : w.heap.size + 1 < w1.heap.size := (by omega); have hzw12 : w.heap.size + 1 + 1 < w1.heap.size := (by omega))
  exact bodyPost_ret (v := .tuple #[.agg #[.int .i64 (m), .int .i64 (M)], .int .i64 0]) (by simp only [results, Try.results51]; go_simp) rfl ⟨rfl, (by repeat' (first | exact Below.refl _ _ | assumption | apply bDrewN | apply bDrew | apply bAlloc | (refine bSet ?_ ?_ _) | (refine bStep ?_ (by assumption)) | omega | (simp <;> omega)))⟩

set_option maxHeartbeats 400000 in
theorem RHas_any (s : Int × Int) (x : Int) (w : World) : Calls Try.prog 105 #[.agg #[.int .i64 s.1, .int .i64 s.2], .int .i64 x] w fun e w' => e = .returned (.bool (hasS s x)) ∧ Below w.heap.size w w' := by
  obtain ⟨a1, a2⟩ := s
  unfold hasS
  cases h : okS (a1, a2) <;> cases h2 : decide (a1 ≤ x) <;> cases h3 : decide (x ≤ a2)
  all_goals
    go_enter Try.func105, Try.ntmps105
    go_wp2_with (go_at_call 114; refine (Valid_any _ _ _).mono ?_; rintro e w1 ⟨rfl, hb⟩; obtain ⟨hcw1, hfw1⟩ := bcell hb; have hzw1 := Below.size hb; (try simp at hzw1); have hzw10 : w.heap.size < w1.heap.size := (by omega))
    go_ret
    exact ⟨rfl, (by repeat' (first | exact Below.refl _ _ | assumption | apply bDrewN | apply bDrew | apply bAlloc | (refine bSet ?_ ?_ _) | (refine bStep ?_ (by assumption)) | omega | (simp <;> omega)))⟩
set_option maxHeartbeats 800000 in
theorem RInside_any (a b : Int × Int) (w : World) : Calls Try.prog 45 #[.agg #[.int .i64 a.1, .int .i64 a.2], .agg #[.int .i64 b.1, .int .i64 b.2]] w fun e w' => e = .returned (.bool (insideS a b)) ∧ Below w.heap.size w w' := by
  obtain ⟨a1, a2⟩ := a
  obtain ⟨b1, b2⟩ := b
  unfold insideS
  cases h : okS (a1, a2) <;> cases h' : okS (b1, b2) <;> cases h2 : decide (b1 ≤ a1) <;> cases h3 : decide (a2 ≤ b2)
  all_goals
    go_enter Try.func45, Try.ntmps45
    go_wp2_with (go_at_call 114; refine (Valid_any _ _ _).mono ?_; rintro e w1 ⟨rfl, hb⟩; obtain ⟨hcw1, hfw1⟩ := bcell hb; have hzw1 := Below.size hb; (try simp at hzw1); have hzw10 : w.heap.size < w1.heap.size := (by omega); have hzw11 : w.heap.size + 1 < w1.heap.size := (by omega))
    go_ret
    exact ⟨rfl, (by repeat' (first | exact Below.refl _ _ | assumption | apply bDrewN | apply bDrew | apply bAlloc | (refine bSet ?_ ?_ _) | (refine bStep ?_ (by assumption)) | omega | (simp <;> omega)))⟩
set_option maxHeartbeats 400000 in
theorem RWidth_any (s : Int × Int) (w : World) : Calls Try.prog 111 #[.agg #[.int .i64 s.1, .int .i64 s.2]] w fun e w' => e = .returned (.tuple #[.int .i64 (widthS s).1, .int .i64 (widthS s).2]) ∧ Below w.heap.size w w' := by
  cases h : okS s
  · rw [widthS_no h]
    obtain ⟨a1, a2⟩ := s
    go_enter Try.func111, Try.ntmps111
    go_wp2_with (go_at_call 114; refine (Valid_any _ _ _).mono ?_; rintro e w1 ⟨rfl, hb⟩; obtain ⟨hcw1, hfw1⟩ := bcell hb; have hzw1 := Below.size hb; (try simp at hzw1); have hzw10 : w.heap.size < w1.heap.size := (by omega))
    go_ret2
    exact ⟨rfl, (by repeat' (first | exact Below.refl _ _ | assumption | apply bDrewN | apply bDrew | apply bAlloc | (refine bSet ?_ ?_ _) | (refine bStep ?_ (by assumption)) | omega | (simp <;> omega)))⟩
  rw [widthS_yes h]
  obtain ⟨h1, h2, h3⟩ := okS_bd h
  obtain ⟨a1, a2⟩ := s
  dsimp only at *
  go_enter Try.func111, Try.ntmps111
  go_wp2_with (first | (go_at_call 114; refine (Valid_any _ _ _).mono ?_; rintro e w1 ⟨rfl, hb⟩; obtain ⟨hcw1, hfw1⟩ := bcell hb; have hzw1 := Below.size hb; (try simp at hzw1); have hzw10 : w.heap.size < w1.heap.size := (by omega)) | (go_at_call 83; refine (number_any _ _).mono ?_; rintro e w' ⟨rfl, rfl⟩))
  go_ret2
  exact ⟨rfl, (by repeat' (first | exact Below.refl _ _ | assumption | apply bDrewN | apply bDrew | apply bAlloc | (refine bSet ?_ ?_ _) | (refine bStep ?_ (by assumption)) | omega | (simp <;> omega)))⟩
theorem half_dn (x : Int) (h1 : -2199023255552 ≤ x) (h2 : x ≤ 2199023255552) : dn x 1 2 = x / 2 := by
  unfold dn Pl.dvq Pl.dvr Pl.LIM sg
  have e : ((1 : Int).natAbs : Int) = 1 := rfl
  have e2 : ((2 : Int).natAbs : Int) = 2 := rfl
  rw [e, e2]
  by_cases hx : x < 0
  · have : (x.natAbs : Int) = -x := by omega
    rw [this]
    simp [hx]
    split <;> (try split) <;> omega
  · have : (x.natAbs : Int) = x := by omega
    rw [this]
    by_cases hx0 : 0 < x
    · simp [hx, hx0]
      omega
    · have : x = 0 := by omega
      subst this
      simp
set_option maxHeartbeats 400000 in
theorem RMiddle_any (s : Int × Int) (w : World) : Calls Try.prog 113 #[.agg #[.int .i64 s.1, .int .i64 s.2]] w fun e w' => e = .returned (.tuple #[.int .i64 (middleS s).1, .int .i64 (middleS s).2]) ∧ Below w.heap.size w w' := by
  cases h : okS s
  · rw [middleS_no h]
    obtain ⟨a1, a2⟩ := s
    go_enter Try.func113, Try.ntmps113
    go_wp2_with (go_at_call 114; refine (Valid_any _ _ _).mono ?_; rintro e w1 ⟨rfl, hb⟩; obtain ⟨hcw1, hfw1⟩ := bcell hb; have hzw1 := Below.size hb; (try simp at hzw1); have hzw10 : w.heap.size < w1.heap.size := (by omega))
    go_ret2
    exact ⟨rfl, (by repeat' (first | exact Below.refl _ _ | assumption | apply bDrewN | apply bDrew | apply bAlloc | (refine bSet ?_ ?_ _) | (refine bStep ?_ (by assumption)) | omega | (simp <;> omega)))⟩
  rw [middleS_yes h]
  obtain ⟨h1, h2, h3⟩ := okS_bd h
  rw [← half_dn _ (by omega) (by omega)]
  obtain ⟨a1, a2⟩ := s
  dsimp only at *
  have H := Lib.hid (fun w => Down_any (a1 + a2) 1 2 w (by omega) (by omega) (by omega) (by omega) (by omega) (by omega) (by omega))
  generalize dn (a1 + a2) 1 2 = v at *
  go_enter Try.func113, Try.ntmps113
  go_wp2_with (first | (go_at_call 114; refine (Valid_any _ _ _).mono ?_; rintro e w1 ⟨rfl, hb⟩; obtain ⟨hcw1, hfw1⟩ := bcell hb; have hzw1 := Below.size hb; (try simp at hzw1); have hzw10 : w.heap.size < w1.heap.size := (by omega)) | (go_at_call 84; refine (H.out _).mono ?_; rintro e w' ⟨rfl, k, rfl⟩))
  go_ret2
  exact ⟨rfl, (by repeat' (first | exact Below.refl _ _ | assumption | apply bDrewN | apply bDrew | apply bAlloc | (refine bSet ?_ ?_ _) | (refine bStep ?_ (by assumption)) | omega | (simp <;> omega)))⟩
set_option maxHeartbeats 400000 in
theorem RClip_any (s : Int × Int) (lo hi : Int) (w : World) : Calls Try.prog 109 #[.agg #[.int .i64 s.1, .int .i64 s.2], .int .i64 lo, .int .i64 hi] w fun e w' => e = .returned (.tuple #[.agg #[.int .i64 (clipS s lo hi).1.1, .int .i64 (clipS s lo hi).1.2], .int .i64 (clipS s lo hi).2]) ∧ Below w.heap.size w w' := by
  have ok2 : okS (lo, hi) = (isQ lo && isQ hi && !decide (hi < lo)) := by
    unfold okS
    congr 1
    rw [Bool.eq_iff_iff]; simp
  cases h : okS s
  · rw [clipS_no (by simp [h])]
    obtain ⟨a1, a2⟩ := s
    clear ok2
    go_enter Try.func109, Try.ntmps109
    go_wp2_with (first | (go_at_call 114; refine (Valid_any _ _ _).mono ?_; rintro e w1 ⟨rfl, hb⟩; obtain ⟨hcw1, hfw1⟩ := bcell hb; have hzw1 := Below.size hb; (try simp at hzw1); have hzw10 : w.heap.size < w1.heap.size := (by omega); have hzw11 : w.heap.size + 1 < w1.heap.size := (by omega)) | (go_at_call 81; refine (Is_any _ _).mono ?_; rintro e w' ⟨rfl, rfl⟩))
    exact bodyPost_ret (v := .tuple #[.agg #[.int .i64 (0), .int .i64 (0)], .int .i64 2]) (by simp only [results, Try.results109]; go_simp) rfl ⟨rfl, (by repeat' (first | exact Below.refl _ _ | assumption | apply bDrewN | apply bDrew | apply bAlloc | (refine bSet ?_ ?_ _) | (refine bStep ?_ (by assumption)) | omega | (simp <;> omega)))⟩
  cases k1 : isQ lo
  · rw [clipS_no (by simp [ok2, k1])]
    obtain ⟨a1, a2⟩ := s
    clear ok2
    go_enter Try.func109, Try.ntmps109
    go_wp2_with (first | (go_at_call 114; refine (Valid_any _ _ _).mono ?_; rintro e w1 ⟨rfl, hb⟩; obtain ⟨hcw1, hfw1⟩ := bcell hb; have hzw1 := Below.size hb; (try simp at hzw1); have hzw10 : w.heap.size < w1.heap.size := (by omega); have hzw11 : w.heap.size + 1 < w1.heap.size := (by omega)) | (go_at_call 81; refine (Is_any _ _).mono ?_; rintro e w' ⟨rfl, rfl⟩))
    exact bodyPost_ret (v := .tuple #[.agg #[.int .i64 (0), .int .i64 (0)], .int .i64 2]) (by simp only [results, Try.results109]; go_simp) rfl ⟨rfl, (by repeat' (first | exact Below.refl _ _ | assumption | apply bDrewN | apply bDrew | apply bAlloc | (refine bSet ?_ ?_ _) | (refine bStep ?_ (by assumption)) | omega | (simp <;> omega)))⟩
  cases k2 : isQ hi
  · rw [clipS_no (by simp [ok2, k2])]
    obtain ⟨a1, a2⟩ := s
    clear ok2
    go_enter Try.func109, Try.ntmps109
    go_wp2_with (first | (go_at_call 114; refine (Valid_any _ _ _).mono ?_; rintro e w1 ⟨rfl, hb⟩; obtain ⟨hcw1, hfw1⟩ := bcell hb; have hzw1 := Below.size hb; (try simp at hzw1); have hzw10 : w.heap.size < w1.heap.size := (by omega); have hzw11 : w.heap.size + 1 < w1.heap.size := (by omega)) | (go_at_call 81; refine (Is_any _ _).mono ?_; rintro e w' ⟨rfl, rfl⟩))
    exact bodyPost_ret (v := .tuple #[.agg #[.int .i64 (0), .int .i64 (0)], .int .i64 2]) (by simp only [results, Try.results109]; go_simp) rfl ⟨rfl, (by repeat' (first | exact Below.refl _ _ | assumption | apply bDrewN | apply bDrew | apply bAlloc | (refine bSet ?_ ?_ _) | (refine bStep ?_ (by assumption)) | omega | (simp <;> omega)))⟩
  cases k3 : decide (hi < lo)
  · rw [clipS_yes (by simp [h, ok2, k1, k2, k3])]
    clear ok2
    obtain ⟨a1, a2⟩ := s
    obtain ⟨M, hM⟩ : ∃ M, max a1 lo = M := ⟨_, rfl⟩
    obtain ⟨N, hN⟩ : ∃ N, max a2 lo = N := ⟨_, rfl⟩
    dsimp only
    rw [hM, hN]
    have e1 : (if a1 < lo then lo else a1) = M := by rw [← hM, max_if]
    have e2 : (if a2 < lo then lo else a2) = N := by rw [← hN, max_if]
    obtain ⟨m, hm⟩ : ∃ m, min M hi = m := ⟨_, rfl⟩
    obtain ⟨n, hn⟩ : ∃ n, min N hi = n := ⟨_, rfl⟩
    rw [hm, hn]
    have e3 : (if hi < M then hi else M) = m := by rw [← hm, min_if]
    have e4 : (if hi < N then hi else N) = n := by rw [← hn, min_if]
    clear hM hN hm hn
    go_enter Try.func109, Try.ntmps109
    go_wp2_with (first | (go_at_call 114; refine (Valid_any _ _ _).mono ?_; rintro e w1 ⟨rfl, hb⟩; obtain ⟨hcw1, hfw1⟩ := bcell hb; have hzw1 := Below.size hb; (try simp at hzw1); have hzw10 : w.heap.size < w1.heap.size := (by omega); have hzw11 : w.heap.size + 1 < w1.heap.size := (by omega)) | (go_at_call 81; refine (Is_any _ _).mono ?_; rintro e w' ⟨rfl, rfl⟩))
    exact bodyPost_ret (v := .tuple #[.agg #[.int .i64 (m), .int .i64 (n)], .int .i64 0]) (by simp only [results, Try.results109]; go_simp) rfl ⟨rfl, (by repeat' (first | exact Below.refl _ _ | assumption | apply bDrewN | apply bDrew | apply bAlloc | (refine bSet ?_ ?_ _) | (refine bStep ?_ (by assumption)) | omega | (simp <;> omega)))⟩
  · rw [clipS_no (by simp [ok2, k3])]
    obtain ⟨a1, a2⟩ := s
    clear ok2
    go_enter Try.func109, Try.ntmps109
    go_wp2_with (first | (go_at_call 114; refine (Valid_any _ _ _).mono ?_; rintro e w1 ⟨rfl, hb⟩; obtain ⟨hcw1, hfw1⟩ := bcell hb; have hzw1 := Below.size hb; (try simp at hzw1); have hzw10 : w.heap.size < w1.heap.size := (by omega); have hzw11 : w.heap.size + 1 < w1.heap.size := (by omega)) | (go_at_call 81; refine (Is_any _ _).mono ?_; rintro e w' ⟨rfl, rfl⟩))
    exact bodyPost_ret (v := .tuple #[.agg #[.int .i64 (0), .int .i64 (0)], .int .i64 2]) (by simp only [results, Try.results109]; go_simp) rfl ⟨rfl, (by repeat' (first | exact Below.refl _ _ | assumption | apply bDrewN | apply bDrew | apply bAlloc | (refine bSet ?_ ?_ _) | (refine bStep ?_ (by assumption)) | omega | (simp <;> omega)))⟩


set_option maxHeartbeats 400000 in
theorem rcheck_any (l : List (Int × Int)) (b off c : Nat) (w : World) (hl : l.length ≤ 9223372036854775807) (hc : SpanCells w b off l) :
    Calls Try.prog 127 #[.slice (some ⟨b, off, none⟩) l.length c] w fun e w' => e = .returned (.int .i64 (if l.all okS = true then 0 else 2)) ∧ Below w.heap.size w w' := by
  obtain ⟨hb, hc⟩ := hc
  generalize hT : (if l.all okS = true then (0 : Int) else 2) = T
  have HT := Lib.hid hT
  clear hT
  go_enter Try.func127, Try.ntmps127
  go_wp2
  go_loopw [3] (fun i wr => ∃ k : Nat, k ≤ l.length ∧ i = .int .i64 k ∧ Below w.heap.size w wr ∧ Hid ((l.take k).all okS = true)) (fun i _ => l.length - (intOf i).toNat)
  case atStart => exact ⟨0, by omega, rfl, Below.refl _ _, by simp [Hid]⟩
  case round =>
    obtain ⟨k, hk, rfl, hB, HQ⟩ := hrel
    by_cases hlt : k < l.length
    · obtain ⟨g1, g2⟩ := hc k hlt
      rw [← hB.cell (p := ⟨b, off + k * 2, none⟩) hb] at g1
      rw [← hB.cell (p := ⟨b, off + k * 2 + 1, none⟩) hb] at g2
      clear hc
      go_wp2_with (go_at_call 114; refine (Valid_any _ _ _).mono ?_; rintro e w' ⟨rfl, hb1⟩)
      · go_ret
        have hf : okS (l[k].fst, l[k].snd) = false := by simpa using ‹(!okS (l[k].fst, l[k].snd)) = true›
        have : l.all okS = false := by
          rw [List.all_eq_false]
          exact ⟨l[k], List.getElem_mem _, by simp [hf]⟩
        refine ⟨?_, (by repeat' (first | exact Below.refl _ _ | assumption | apply bDrewN | apply bDrew | apply bAlloc | (refine bSet ?_ ?_ _) | (refine bStep ?_ (by assumption)) | omega | (simp <;> omega)))⟩
        rw [← HT.out, this]; rfl
      · have hf : okS (l[k].fst, l[k].snd) = true := by simpa using ‹(!okS (l[k].fst, l[k].snd)) = false›
        go_roundw
        case rel =>
          refine ⟨k + 1, by omega, by go_num, (by repeat' (first | exact Below.refl _ _ | assumption | apply bDrewN | apply bDrew | apply bAlloc | (refine bSet ?_ ?_ _) | (refine bStep ?_ (by assumption)) | omega | (simp <;> omega))), ?_⟩
          rw [Hid, List.take_succ_eq_append_getElem hlt, List.all_append, HQ.out]
          simp [hf]
        case measure => simp [intOf]; omega
    · go_wp2
      go_ret
      obtain rfl : k = l.length := by omega
      have := HQ.out
      rw [List.take_length] at this
      refine ⟨?_, (by repeat' (first | exact Below.refl _ _ | assumption | apply bDrewN | apply bDrew | apply bAlloc | (refine bSet ?_ ?_ _) | (refine bStep ?_ (by assumption)) | omega | (simp <;> omega)))⟩
      rw [← HT.out, this]; rfl

theorem rcheck_oneN (X : World) (x y : Int) (t : TypeId) (fr : Nat × Nat) (b c : Nat) (hb : b = X.heap.size) :
    Calls Try.prog 127 #[.slice (some ⟨b, 0, none⟩) 1 c] (X.alloc (.cells #[.int .i64 x, .int .i64 y] t fr)) fun e w' => e = .returned (.int .i64 (checkS (x, y))) ∧ Below (X.alloc (.cells #[.int .i64 x, .int .i64 y] t fr)).heap.size (X.alloc (.cells #[.int .i64 x, .int .i64 y] t fr)) w' := by
  subst hb
  have h := blk_new X (.cells #[.int .i64 x, .int .i64 y] t fr)
  exact (rcheck_any [(x, y)] _ 0 c _ (by simp) (spanCells_one (blk_lt h) (blk_cell h rfl) (by simpa using blk_cell (o := 1) h rfl))).mono fun _ _ ⟨he, h⟩ => ⟨by simpa [checkS] using he, h⟩
theorem RCheck_any (s : Int × Int) (w : World) : Calls Try.prog 104 #[.agg #[.int .i64 s.1, .int .i64 s.2]] w fun e w' => e = .returned (.int .i64 (checkS s)) ∧ Below w.heap.size w w' := by
  obtain ⟨a1, a2⟩ := s
  go_enter Try.func104, Try.ntmps104
  go_wp2_with (go_at_call 127; refine (rcheck_oneN _ _ _ _ _ _ _ (by simp)).mono ?_; rintro e w1 ⟨rfl, hb⟩)
  go_ret
  exact ⟨rfl, (by repeat' (first | exact Below.refl _ _ | assumption | apply bDrewN | apply bDrew | apply bAlloc | (refine bSet ?_ ?_ _) | (refine bStep ?_ (by assumption)) | omega | (simp <;> omega)))⟩

end Go.Proofs.Ytjnllfebeeiilaa
