/-
  The walks of the reference's Scale, Mul, Square.
-/
import Derived.Test.YtjnllfebeeiilaaR2
set_option linter.unusedSimpArgs false
set_option linter.unusedVariables false
namespace Go.Proofs.Ytjnllfebeeiilaa
open Go.RowKit

theorem scale_fold (x y : Int × Int) : foldS x [x, y, y] = foldS x [y] := by
  simp only [foldS, List.foldl]
  rw [Prod.mk.injEq]; omega
theorem dn_sq (x d : Int) (hd : 1 ≤ d) : 0 ≤ dn x x d := by
  have h := dvq_bd x.natAbs x.natAbs d.natAbs (by omega) (by omega) (by omega)
  unfold dn
  rw [if_pos]
  · exact h.1
  · unfold sg; split <;> (try split) <;> (try split) <;> (try split) <;> omega
theorem up_sq (x d : Int) (hd : 1 ≤ d) : 0 ≤ up x x d := by
  have h := dvq_bd (-x).natAbs x.natAbs d.natAbs (by omega) (by omega) (by omega)
  unfold up dn
  by_cases hx : x = 0
  · subst hx
    simp [sg, Pl.dvq, Pl.LIM]
  rw [if_neg]
  · split <;> omega
  · unfold sg
    rcases Int.lt_or_gt_of_ne hx with h1 | h1
    · have a1 : ¬ (-x < 0) := by omega
      have a2 : 0 < -x := by omega
      have a3 : ¬ d < 0 := by omega
      have a4 : 0 < d := by omega
      have a5 : ¬ 0 < x := by omega
      simp [h1, a1, a2, a3, a4, a5]
    · have a1 : -x < 0 := by omega
      have a2 : ¬ x < 0 := by omega
      have a3 : ¬ d < 0 := by omega
      have a4 : 0 < d := by omega
      simp [h1, a1, a2, a3, a4]
theorem dn_zero (d : Int) : dn 0 0 d = 0 := by simp [dn, sg, Pl.dvq, Pl.LIM]
theorem up_zero (d : Int) : up 0 0 d = 0 := by simp [up, dn, sg, Pl.dvq, Pl.LIM]
/-- What the reference computes of a square. -/
def sqLo (s : Int × Int) (d : Int) : Int := if s.1 ≤ 0 ∧ 0 ≤ s.2 then 0 else min (dn s.1 s.1 d) (dn s.2 s.2 d)
theorem square_fold (s : Int × Int) (d : Int) (hd : 1 ≤ d) (hs : s.1 ≤ s.2) :
    foldS (rt (mid0 s) (mid0 s) d) [rt s.1 s.1 d, rt s.2 s.2 d] = (sqLo s d, max (up s.1 s.1 d) (up s.2 s.2 d)) := by
  have a1 := dn_sq s.1 d hd
  have a2 := dn_sq s.2 d hd
  have a3 := up_sq s.1 d hd
  have a4 := up_sq s.2 d hd
  unfold sqLo
  by_cases h : s.1 ≤ 0 ∧ 0 ≤ s.2
  · have hm : mid0 s = 0 := by unfold mid0; omega
    rw [if_pos h, hm]
    simp only [foldS, List.foldl, rt, dn_zero, up_zero]
    rw [Prod.mk.injEq]; omega
  · rw [if_neg h]
    have hm : mid0 s = s.1 ∨ mid0 s = s.2 := by unfold mid0; omega
    rcases hm with hm | hm
    all_goals
      rw [hm]
      simp only [foldS, List.foldl, rt]
      rw [Prod.mk.injEq]; omega

set_option maxHeartbeats 1000000 in
set_option maxRecDepth 20000 in
theorem RScale_any (s : Int × Int) (n d : Int) (w : World) : Calls Try.prog 106 #[.agg #[.int .i64 s.1, .int .i64 s.2], .int .i64 n, .int .i64 d] w fun e w' => e = .returned (.tuple #[.agg #[.int .i64 (scaleS s n d).1.1, .int .i64 (scaleS s n d).1.2], .int .i64 (scaleS s n d).2]) ∧ Below w.heap.size w w' := by
  cases h : okS s
  · rw [show scaleS s n d = E2 from by simp [scaleS, h]]
    obtain ⟨a1, a2⟩ := s
    go_enter Try.func106, Try.ntmps106
    go_wp2_with (first | (go_at_call 114; refine (Valid_any _ _ _).mono ?_; rintro e w1 ⟨rfl, hb⟩; obtain ⟨hcw1, hfw1⟩ := bcell hb; have hzw1 := Below.size hb; (try simp at hzw1); have hzw10 : w.heap.size < w1.heap.size := (by omega); have hzw11 : w.heap.size + 1 < w1.heap.size := (by omega)) | (go_at_call 81; refine (Is_any _ _).mono ?_; rintro e w' ⟨rfl, rfl⟩) | (go_at_call 82; refine (den_any _ _).mono ?_; rintro e w' ⟨rfl, rfl⟩))
    exact bodyPost_ret (v := .tuple #[.agg #[.int .i64 (0), .int .i64 (0)], .int .i64 2]) (by simp only [results, Try.results106]; go_simp) rfl ⟨rfl, (by repeat' (first | exact Below.refl _ _ | assumption | apply bDrewN | apply bDrew | apply bAlloc | (refine bSet ?_ ?_ _) | (refine bStep ?_ (by assumption)) | omega | (simp <;> omega)))⟩
  cases hn : isQ n
  · rw [show scaleS s n d = E2 from by simp [scaleS, hn]]
    obtain ⟨a1, a2⟩ := s
    go_enter Try.func106, Try.ntmps106
    go_wp2_with (first | (go_at_call 114; refine (Valid_any _ _ _).mono ?_; rintro e w1 ⟨rfl, hb⟩; obtain ⟨hcw1, hfw1⟩ := bcell hb; have hzw1 := Below.size hb; (try simp at hzw1); have hzw10 : w.heap.size < w1.heap.size := (by omega); have hzw11 : w.heap.size + 1 < w1.heap.size := (by omega)) | (go_at_call 81; refine (Is_any _ _).mono ?_; rintro e w' ⟨rfl, rfl⟩) | (go_at_call 82; refine (den_any _ _).mono ?_; rintro e w' ⟨rfl, rfl⟩))
    exact bodyPost_ret (v := .tuple #[.agg #[.int .i64 (0), .int .i64 (0)], .int .i64 2]) (by simp only [results, Try.results106]; go_simp) rfl ⟨rfl, (by repeat' (first | exact Below.refl _ _ | assumption | apply bDrewN | apply bDrew | apply bAlloc | (refine bSet ?_ ?_ _) | (refine bStep ?_ (by assumption)) | omega | (simp <;> omega)))⟩
  cases hd : isDen d
  · rw [show scaleS s n d = E2 from by simp [scaleS, hd]]
    obtain ⟨a1, a2⟩ := s
    go_enter Try.func106, Try.ntmps106
    go_wp2_with (first | (go_at_call 114; refine (Valid_any _ _ _).mono ?_; rintro e w1 ⟨rfl, hb⟩; obtain ⟨hcw1, hfw1⟩ := bcell hb; have hzw1 := Below.size hb; (try simp at hzw1); have hzw10 : w.heap.size < w1.heap.size := (by omega); have hzw11 : w.heap.size + 1 < w1.heap.size := (by omega)) | (go_at_call 81; refine (Is_any _ _).mono ?_; rintro e w' ⟨rfl, rfl⟩) | (go_at_call 82; refine (den_any _ _).mono ?_; rintro e w' ⟨rfl, rfl⟩))
    exact bodyPost_ret (v := .tuple #[.agg #[.int .i64 (0), .int .i64 (0)], .int .i64 2]) (by simp only [results, Try.results106]; go_simp) rfl ⟨rfl, (by repeat' (first | exact Below.refl _ _ | assumption | apply bDrewN | apply bDrew | apply bAlloc | (refine bSet ?_ ?_ _) | (refine bStep ?_ (by assumption)) | omega | (simp <;> omega)))⟩
  rw [show scaleS s n d = spanS (foldS (rt s.1 n d) [rt s.2 n d]) from if_pos ⟨h, hn, hd⟩, ← scale_fold]
  have hnn : okS (n, n) = true := by
    obtain ⟨q1, q2⟩ := (isQ_iff _).1 hn
    exact okS_mk q1 (Int.le_refl _) q2
  have H := Lib.hid (fun w => corners_any s (n, n) d w h hnn hd)
  dsimp only at H
  generalize spanS (foldS (rt s.1 n d) [rt s.1 n d, rt s.2 n d, rt s.2 n d]) = S at *
  obtain ⟨a1, a2⟩ := s
  dsimp only at *
  clear hnn
  go_enter Try.func106, Try.ntmps106
  go_wp2_with (first | (go_at_call 114; refine (Valid_any _ _ _).mono ?_; rintro e w1 ⟨rfl, hb⟩; obtain ⟨hcw1, hfw1⟩ := bcell hb; have hzw1 := Below.size hb; (try simp at hzw1); have hzw10 : w.heap.size < w1.heap.size := (by omega); have hzw11 : w.heap.size + 1 < w1.heap.size := (by omega)) | (go_at_call 81; refine (Is_any _ _).mono ?_; rintro e w' ⟨rfl, rfl⟩) | (go_at_call 82; refine (den_any _ _).mono ?_; rintro e w' ⟨rfl, rfl⟩) | (go_at_call 116; refine (H.out _).mono ?_; rintro e w3 ⟨rfl, hb3⟩; obtain ⟨hcw3, hfw3⟩ := bcell hb3; have hzw3 := Below.size hb3; (try simp at hzw3); have hzw30 : w.heap.size < w3.heap.size := (by omega); have hzw31 : w.heap.size + 1 < w3.heap.size := (by omega)))
  exact bodyPost_ret (v := .tuple #[.agg #[.int .i64 (S.1.1), .int .i64 (S.1.2)], .int .i64 S.2]) (by simp only [results, Try.results106]; go_simp) rfl ⟨rfl, (by repeat' (first | exact Below.refl _ _ | assumption | apply bDrewN | apply bDrew | apply bAlloc | (refine bSet ?_ ?_ _) | (refine bStep ?_ (by assumption)) | omega | (simp <;> omega)))⟩

set_option maxHeartbeats 1000000 in
set_option maxRecDepth 20000 in
theorem RMul_any (a b : Int × Int) (d : Int) (w : World) : Calls Try.prog 48 #[.agg #[.int .i64 a.1, .int .i64 a.2], .agg #[.int .i64 b.1, .int .i64 b.2], .int .i64 d] w fun e w' => e = .returned (.tuple #[.agg #[.int .i64 (mulS a b d).1.1, .int .i64 (mulS a b d).1.2], .int .i64 (mulS a b d).2]) ∧ Below w.heap.size w w' := by
  cases h : okS a
  · rw [show mulS a b d = E2 from by simp [mulS, h]]
    obtain ⟨a1, a2⟩ := a
    obtain ⟨b1, b2⟩ := b
    go_enter Try.func48, Try.ntmps48
    go_wp2_with (first | (go_at_call 114; refine (Valid_any _ _ _).mono ?_; rintro e w1 ⟨rfl, hb⟩; obtain ⟨hcw1, hfw1⟩ := bcell hb; have hzw1 := Below.size hb; (try simp at hzw1); have hzw10 : w.heap.size < w1.heap.size := (by omega); have hzw11 : w.heap.size + 1 < w1.heap.size := (by omega); have hzw12 : w.heap.size + 1 + 1 < w1.heap.size := (by omega)) | (go_at_call 81; refine (Is_any _ _).mono ?_; rintro e w' ⟨rfl, rfl⟩) | (go_at_call 82; refine (den_any _ _).mono ?_; rintro e w' ⟨rfl, rfl⟩))
    exact bodyPost_ret (v := .tuple #[.agg #[.int .i64 (0), .int .i64 (0)], .int .i64 2]) (by simp only [results, Try.results48]; go_simp) rfl ⟨rfl, (by repeat' (first | exact Below.refl _ _ | assumption | apply bDrewN | apply bDrew | apply bAlloc | (refine bSet ?_ ?_ _) | (refine bStep ?_ (by assumption)) | omega | (simp <;> omega)))⟩
  cases h' : okS b
  · rw [show mulS a b d = E2 from by simp [mulS, h']]
    obtain ⟨a1, a2⟩ := a
    obtain ⟨b1, b2⟩ := b
    go_enter Try.func48, Try.ntmps48
    go_wp2_with (first | (go_at_call 114; refine (Valid_any _ _ _).mono ?_; rintro e w1 ⟨rfl, hb⟩; obtain ⟨hcw1, hfw1⟩ := bcell hb; have hzw1 := Below.size hb; (try simp at hzw1); have hzw10 : w.heap.size < w1.heap.size := (by omega); have hzw11 : w.heap.size + 1 < w1.heap.size := (by omega); have hzw12 : w.heap.size + 1 + 1 < w1.heap.size := (by omega)) | (go_at_call 81; refine (Is_any _ _).mono ?_; rintro e w' ⟨rfl, rfl⟩) | (go_at_call 82; refine (den_any _ _).mono ?_; rintro e w' ⟨rfl, rfl⟩))
    exact bodyPost_ret (v := .tuple #[.agg #[.int .i64 (0), .int .i64 (0)], .int .i64 2]) (by simp only [results, Try.results48]; go_simp) rfl ⟨rfl, (by repeat' (first | exact Below.refl _ _ | assumption | apply bDrewN | apply bDrew | apply bAlloc | (refine bSet ?_ ?_ _) | (refine bStep ?_ (by assumption)) | omega | (simp <;> omega)))⟩
  cases hd : isDen d
  · rw [show mulS a b d = E2 from by simp [mulS, hd]]
    obtain ⟨a1, a2⟩ := a
    obtain ⟨b1, b2⟩ := b
    go_enter Try.func48, Try.ntmps48
    go_wp2_with (first | (go_at_call 114; refine (Valid_any _ _ _).mono ?_; rintro e w1 ⟨rfl, hb⟩; obtain ⟨hcw1, hfw1⟩ := bcell hb; have hzw1 := Below.size hb; (try simp at hzw1); have hzw10 : w.heap.size < w1.heap.size := (by omega); have hzw11 : w.heap.size + 1 < w1.heap.size := (by omega); have hzw12 : w.heap.size + 1 + 1 < w1.heap.size := (by omega)) | (go_at_call 81; refine (Is_any _ _).mono ?_; rintro e w' ⟨rfl, rfl⟩) | (go_at_call 82; refine (den_any _ _).mono ?_; rintro e w' ⟨rfl, rfl⟩))
    exact bodyPost_ret (v := .tuple #[.agg #[.int .i64 (0), .int .i64 (0)], .int .i64 2]) (by simp only [results, Try.results48]; go_simp) rfl ⟨rfl, (by repeat' (first | exact Below.refl _ _ | assumption | apply bDrewN | apply bDrew | apply bAlloc | (refine bSet ?_ ?_ _) | (refine bStep ?_ (by assumption)) | omega | (simp <;> omega)))⟩
  rw [show mulS a b d = spanS (foldS (rt a.1 b.1 d) [rt a.1 b.2 d, rt a.2 b.1 d, rt a.2 b.2 d]) from if_pos ⟨by simp [h, h'], hd⟩]
  have H := Lib.hid (fun w => corners_any a b d w h h' hd)
  generalize spanS (foldS (rt a.1 b.1 d) [rt a.1 b.2 d, rt a.2 b.1 d, rt a.2 b.2 d]) = S at *
  obtain ⟨a1, a2⟩ := a
  obtain ⟨b1, b2⟩ := b
  dsimp only at *
  go_enter Try.func48, Try.ntmps48
  go_wp2_with (first | (go_at_call 114; refine (Valid_any _ _ _).mono ?_; rintro e w1 ⟨rfl, hb⟩; obtain ⟨hcw1, hfw1⟩ := bcell hb; have hzw1 := Below.size hb; (try simp at hzw1); have hzw10 : w.heap.size < w1.heap.size := (by omega); have hzw11 : w.heap.size + 1 < w1.heap.size := (by omega); have hzw12 : w.heap.size + 1 + 1 < w1.heap.size := (by omega)) | (go_at_call 81; refine (Is_any _ _).mono ?_; rintro e w' ⟨rfl, rfl⟩) | (go_at_call 82; refine (den_any _ _).mono ?_; rintro e w' ⟨rfl, rfl⟩) | (go_at_call 116; refine (H.out _).mono ?_; rintro e w3 ⟨rfl, hb3⟩; obtain ⟨hcw3, hfw3⟩ := bcell hb3; have hzw3 := Below.size hb3; (try simp at hzw3); have hzw30 : w.heap.size < w3.heap.size := (by omega); have hzw31 : w.heap.size + 1 < w3.heap.size := (by omega); have hzw32 : w.heap.size + 1 + 1 < w3.heap.size := (by omega)))
  exact bodyPost_ret (v := .tuple #[.agg #[.int .i64 (S.1.1), .int .i64 (S.1.2)], .int .i64 S.2]) (by simp only [results, Try.results48]; go_simp) rfl ⟨rfl, (by repeat' (first | exact Below.refl _ _ | assumption | apply bDrewN | apply bDrew | apply bAlloc | (refine bSet ?_ ?_ _) | (refine bStep ?_ (by assumption)) | omega | (simp <;> omega)))⟩

theorem Box1.drewN {w W : World} {b r : Nat} {v0 v1 : Value} (h : Box1 w b r v0 v1 W) (n : Nat) : Box1 w b r v0 v1 (W.drewN n) := h.step (bDrewN (Below.refl _ _))

set_option maxHeartbeats 1000000 in
set_option maxRecDepth 20000 in
theorem RSquare_any (s : Int × Int) (d : Int) (w : World) : Calls Try.prog 107 #[.agg #[.int .i64 s.1, .int .i64 s.2], .int .i64 d] w fun e w' => e = .returned (.tuple #[.agg #[.int .i64 (squareS s d).1.1, .int .i64 (squareS s d).1.2], .int .i64 (squareS s d).2]) ∧ Below w.heap.size w w' := by
  cases h : okS s
  · rw [show squareS s d = E2 from by simp [squareS, h]]
    obtain ⟨a1, a2⟩ := s
    go_enter Try.func107, Try.ntmps107
    go_wp2_with (first | (go_at_call 114; refine (Valid_any _ _ _).mono ?_; rintro e w1 ⟨rfl, hb⟩; obtain ⟨hcw1, hfw1⟩ := bcell hb; have hzw1 := Below.size hb; (try simp at hzw1); have hzw10 : w.heap.size < w1.heap.size := (by omega); have hzw11 : w.heap.size + 1 < w1.heap.size := (by omega)) | (go_at_call 81; refine (Is_any _ _).mono ?_; rintro e w' ⟨rfl, rfl⟩) | (go_at_call 82; refine (den_any _ _).mono ?_; rintro e w' ⟨rfl, rfl⟩))
    exact bodyPost_ret (v := .tuple #[.agg #[.int .i64 (0), .int .i64 (0)], .int .i64 2]) (by simp only [results, Try.results107]; go_simp) rfl ⟨rfl, (by repeat' (first | exact Below.refl _ _ | assumption | apply bDrewN | apply bDrew | apply bAlloc | (refine bSet ?_ ?_ _) | (refine bStep ?_ (by assumption)) | omega | (simp <;> omega)))⟩
  cases hd : isDen d
  · rw [show squareS s d = E2 from by simp [squareS, hd]]
    obtain ⟨a1, a2⟩ := s
    go_enter Try.func107, Try.ntmps107
    go_wp2_with (first | (go_at_call 114; refine (Valid_any _ _ _).mono ?_; rintro e w1 ⟨rfl, hb⟩; obtain ⟨hcw1, hfw1⟩ := bcell hb; have hzw1 := Below.size hb; (try simp at hzw1); have hzw10 : w.heap.size < w1.heap.size := (by omega); have hzw11 : w.heap.size + 1 < w1.heap.size := (by omega)) | (go_at_call 81; refine (Is_any _ _).mono ?_; rintro e w' ⟨rfl, rfl⟩) | (go_at_call 82; refine (den_any _ _).mono ?_; rintro e w' ⟨rfl, rfl⟩))
    exact bodyPost_ret (v := .tuple #[.agg #[.int .i64 (0), .int .i64 (0)], .int .i64 2]) (by simp only [results, Try.results107]; go_simp) rfl ⟨rfl, (by repeat' (first | exact Below.refl _ _ | assumption | apply bDrewN | apply bDrew | apply bAlloc | (refine bSet ?_ ?_ _) | (refine bStep ?_ (by assumption)) | omega | (simp <;> omega)))⟩
  rw [show squareS s d = spanS (foldS (rt (mid0 s) (mid0 s) d) [rt s.1 s.1 d, rt s.2 s.2 d]) from if_pos ⟨h, hd⟩]
  obtain ⟨h1, h2, h3⟩ := okS_bd h
  obtain ⟨q3, q4⟩ := (isDen_iff _).1 hd
  rw [square_fold s d q3 h2]
  obtain ⟨a1, a2⟩ := s
  unfold sqLo
  dsimp only at *
  have D0 := Lib.hid (fun w => Down_any a1 a1 d w (by omega) (by omega) (by omega) (by omega) (by omega) (by omega) (by omega))
  have D1 := Lib.hid (fun w => Down_any a2 a2 d w (by omega) (by omega) (by omega) (by omega) (by omega) (by omega) (by omega))
  have U0 := Lib.hid (fun w => Up_any a1 a1 d w (by omega) (by omega) (by omega) (by omega) (by omega) (by omega) (by omega))
  have U1 := Lib.hid (fun w => Up_any a2 a2 d w (by omega) (by omega) (by omega) (by omega) (by omega) (by omega) (by omega))
  clear h1 h2 h3 q3 q4
  generalize dn a1 a1 d = l0 at *
  generalize up a1 a1 d = u0 at *
  generalize dn a2 a2 d = l1 at *
  generalize up a2 a2 d = u1 at *
  obtain ⟨m, hm⟩ : ∃ m, min l0 l1 = m := ⟨_, rfl⟩
  obtain ⟨M, hM⟩ : ∃ m, max u0 u1 = m := ⟨_, rfl⟩
  rw [hm, hM]
  rw [min_if] at hm
  rw [max_if] at hM
  obtain ⟨L, hL⟩ : ∃ L, (if a1 ≤ 0 ∧ 0 ≤ a2 then 0 else m) = L := ⟨_, rfl⟩
  rw [hL]
  have HL := Lib.hid hL
  clear hL
  obtain ⟨S, hS0⟩ : ∃ S, spanS (L, M) = S := ⟨_, rfl⟩
  rw [hS0]
  have HS0 := Lib.hid hS0
  clear hS0
  go_enter Try.func107, Try.ntmps107
  go_wp2_with (first | (go_at_call 114; refine (Valid_any _ _ _).mono ?_; rintro e w1 ⟨rfl, hb⟩; obtain ⟨hcw1, hfw1⟩ := bcell hb; have hzw1 := Below.size hb; (try simp at hzw1); have hzw10 : w.heap.size < w1.heap.size := (by omega); have hzw11 : w.heap.size + 1 < w1.heap.size := (by omega)) | (go_at_call 82; refine (den_any _ _).mono ?_; rintro e w' ⟨rfl, rfl⟩))
  have hS : Box1 w w.heap.size (w.heap.size + 1) (.int .i64 a1) (.int .i64 a2) w1 := by
    refine ⟨?_, ?_, ⟨⟨.int .i64 0, .int .i64 0, ?_, ?_⟩, ?_, ?_⟩, (by repeat' (first | exact Below.refl _ _ | assumption | apply bDrewN | apply bDrew | apply bAlloc | (refine bSet ?_ ?_ _) | (refine bStep ?_ (by assumption)) | omega | (simp <;> omega)))⟩ <;> go_simp
  clear hb hcw1 hfw1 hzw1 hzw10 hzw11
  go_region_held3 (fun W => W.cell? ⟨w.heap.size, 0, none⟩ = some (.int .i64 a1) ∧ W.cell? ⟨w.heap.size, 1, none⟩ = some (.int .i64 a2) ∧ ResBox (w.heap.size + 1) W ∧ Below w.heap.size w W) ((first | exact Box1.drew hS | exact Box1.step (by assumption) (by assumption) | exact Box1.alloc (by assumption) _ | exact Box1.drewN (by assumption) _ | exact Box1.set (by assumption) (Nat.le_succ _) (Nat.ne_of_lt (Nat.lt_succ_self _)) _ _)) ((first | (go_at_call 84; (with_reducible refine (D0.out _).mono ?_); rintro e w2 ⟨rfl, k, rfl⟩) | (go_at_call 84; (with_reducible refine (D1.out _).mono ?_); rintro e w2 ⟨rfl, k, rfl⟩)))
  have hS2 := ‹_ ∧ _ ∧ ResBox _ _ ∧ Below _ _ _›
  obtain ⟨k1, k2, ⟨⟨x0, x1, hx0, hx1⟩, hx2, hx3⟩, kB⟩ := hS2
  have hS2 : Box1 w w.heap.size (w.heap.size + 1) (.int .i64 a1) (.int .i64 a2) _ := ⟨k1, k2, ⟨⟨x0, x1, hx0, hx1⟩, hx2, hx3⟩, kB⟩
  by_cases g1 : a1 ≤ 0
  all_goals by_cases g2 : 0 ≤ a2
  all_goals
    have e0 := HL.out
    simp only [g1, g2, and_self, and_true, true_and, and_false, false_and, if_true, if_false] at e0
    subst e0
    go_wp2
    go_region_held3 (fun W => W.cell? ⟨w.heap.size, 0, none⟩ = some (.int .i64 a1) ∧ W.cell? ⟨w.heap.size, 1, none⟩ = some (.int .i64 a2) ∧ ResBox (w.heap.size + 1) W ∧ Below w.heap.size w W) ((first | exact Box1.drew hS2 | exact Box1.step (by assumption) (by assumption) | exact Box1.alloc (by assumption) _ | exact Box1.drewN (by assumption) _ | exact Box1.set (by assumption) (Nat.le_succ _) (Nat.ne_of_lt (Nat.lt_succ_self _)) _ _)) ((first | (go_at_call 86; (with_reducible refine (U0.out _).mono ?_); rintro e w2 ⟨rfl, k, rfl⟩) | (go_at_call 86; (with_reducible refine (U1.out _).mono ?_); rintro e w2 ⟨rfl, k, rfl⟩) | (go_at_call 115; refine (rspan_any _ _ _).mono ?_; rw [HS0.out]; rintro e w3 ⟨rfl, hb3⟩) | (obtain ⟨_, _, ⟨⟨x0, x1, hx0, hx1⟩, hx2, hx3⟩, _⟩ := ‹_ ∧ _ ∧ ResBox _ _ ∧ _›; go_simp)))
    go_wp2
    have hB := (‹_ ∧ _ ∧ ResBox _ _ ∧ Below _ _ _›).2.2.2
    exact bodyPost_ret (v := .tuple #[.agg #[.int .i64 S.1.1, .int .i64 S.1.2], .int .i64 S.2]) (by simp only [results, Try.results107]; go_simp) rfl ⟨rfl, hB⟩


end Go.Proofs.Ytjnllfebeeiilaa
