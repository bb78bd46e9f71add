/-
  The walks of the reference's corners, Scale, Mul.
-/
import Derived.Test.YtjnllfebeeiilaaR1
import Derived.Test.YtjnllfebeeiilaaWi
set_option linter.unusedSimpArgs false
set_option linter.unusedVariables false
namespace Go.Proofs.Ytjnllfebeeiilaa
open Go.RowKit

theorem up_bd (x n d : Int) (hd : d ≠ 0) : -1152921504606846976 ≤ up x n d ∧ up x n d ≤ 1152921504606846977 := by
  have h := dn_bd (-x) n d hd
  unfold up
  omega
/-- The reference begins with what is far: that is no number of the four. -/
theorem corners_fold (l0 l1 l2 l3 u0 u1 u2 u3 : Int) (h0 : l0 ≤ 1152921504606846976) (k0 : -1152921504606846976 ≤ u0) :
    (min (min (min (min 1152921504606846976 l0) l1) l2) l3, max (max (max (max (-1152921504606846976) u0) u1) u2) u3) = foldS (l0, u0) [(l1, u1), (l2, u2), (l3, u3)] := by
  simp only [foldS, List.foldl]
  rw [Int.min_eq_right h0, Int.max_eq_right k0]

set_option maxHeartbeats 2000000 in
set_option maxRecDepth 20000 in
theorem corners_any (a b : Int × Int) (d : Int) (w : World) (h : okS a = true) (h' : okS b = true) (hd : isDen d = true) :
    Calls Try.prog 116 #[.agg #[.int .i64 a.1, .int .i64 a.2], .agg #[.int .i64 b.1, .int .i64 b.2], .int .i64 d] w fun e w' => e = .returned (.tuple #[.agg #[.int .i64 (spanS (foldS (rt a.1 b.1 d) [rt a.1 b.2 d, rt a.2 b.1 d, rt a.2 b.2 d])).1.1, .int .i64 (spanS (foldS (rt a.1 b.1 d) [rt a.1 b.2 d, rt a.2 b.1 d, rt a.2 b.2 d])).1.2], .int .i64 (spanS (foldS (rt a.1 b.1 d) [rt a.1 b.2 d, rt a.2 b.1 d, rt a.2 b.2 d])).2]) ∧ Below w.heap.size w w' := by
  obtain ⟨h1, h2, h3⟩ := okS_bd h
  obtain ⟨h4, h5, h6⟩ := okS_bd h'
  obtain ⟨q3, q4⟩ := (isDen_iff _).1 hd
  obtain ⟨a1, a2⟩ := a
  obtain ⟨b1, b2⟩ := b
  simp only [rt]
  dsimp only at *
  rw [← corners_fold _ _ _ _ _ _ _ _ (dn_bd _ _ _ (by omega)).2 (up_bd _ _ _ (by omega)).1]
  have H0 := Lib.hid (fun w => Down_any a1 b1 d w (by omega) (by omega) (by omega) (by omega) (by omega) (by omega) (by omega))
  have K0 := Lib.hid (fun w => Up_any a1 b1 d w (by omega) (by omega) (by omega) (by omega) (by omega) (by omega) (by omega))
  have H1 := Lib.hid (fun w => Down_any a1 b2 d w (by omega) (by omega) (by omega) (by omega) (by omega) (by omega) (by omega))
  have K1 := Lib.hid (fun w => Up_any a1 b2 d w (by omega) (by omega) (by omega) (by omega) (by omega) (by omega) (by omega))
  have H2 := Lib.hid (fun w => Down_any a2 b1 d w (by omega) (by omega) (by omega) (by omega) (by omega) (by omega) (by omega))
  have K2 := Lib.hid (fun w => Up_any a2 b1 d w (by omega) (by omega) (by omega) (by omega) (by omega) (by omega) (by omega))
  have H3 := Lib.hid (fun w => Down_any a2 b2 d w (by omega) (by omega) (by omega) (by omega) (by omega) (by omega) (by omega))
  have K3 := Lib.hid (fun w => Up_any a2 b2 d w (by omega) (by omega) (by omega) (by omega) (by omega) (by omega) (by omega))
  clear h1 h2 h3 h4 h5 h6 q3 q4 h h' hd
  generalize dn a1 b1 d = l0 at *
  generalize up a1 b1 d = u0 at *
  generalize dn a1 b2 d = l1 at *
  generalize up a1 b2 d = u1 at *
  generalize dn a2 b1 d = l2 at *
  generalize up a2 b1 d = u2 at *
  generalize dn a2 b2 d = l3 at *
  generalize up a2 b2 d = u3 at *
  obtain ⟨m0, hm0⟩ : ∃ m, min 1152921504606846976 l0 = m := ⟨_, rfl⟩
  obtain ⟨m1, hm1⟩ : ∃ m, min m0 l1 = m := ⟨_, rfl⟩
  obtain ⟨m2, hm2⟩ : ∃ m, min m1 l2 = m := ⟨_, rfl⟩
  obtain ⟨m3, hm3⟩ : ∃ m, min m2 l3 = m := ⟨_, rfl⟩
  obtain ⟨n0, hn0⟩ : ∃ m, max (-1152921504606846976) u0 = m := ⟨_, rfl⟩
  obtain ⟨n1, hn1⟩ : ∃ m, max n0 u1 = m := ⟨_, rfl⟩
  obtain ⟨n2, hn2⟩ : ∃ m, max n1 u2 = m := ⟨_, rfl⟩
  obtain ⟨n3, hn3⟩ : ∃ m, max n2 u3 = m := ⟨_, rfl⟩
  rw [hm0, hm1, hm2, hm3, hn0, hn1, hn2, hn3]
  rw [min_if] at hm0 hm1 hm2 hm3
  rw [max_if] at hn0 hn1 hn2 hn3
  go_enter Try.func116, Try.ntmps116
  go_wp2_with (first | (go_at_call 84; (with_reducible refine (H0.out _).mono ?_); rintro e w' ⟨rfl, k, rfl⟩) | (go_at_call 84; (with_reducible refine (H1.out _).mono ?_); rintro e w' ⟨rfl, k, rfl⟩) | (go_at_call 84; (with_reducible refine (H2.out _).mono ?_); rintro e w' ⟨rfl, k, rfl⟩) | (go_at_call 84; (with_reducible refine (H3.out _).mono ?_); rintro e w' ⟨rfl, k, rfl⟩) | (go_at_call 86; (with_reducible refine (K0.out _).mono ?_); rintro e w' ⟨rfl, k, rfl⟩) | (go_at_call 86; (with_reducible refine (K1.out _).mono ?_); rintro e w' ⟨rfl, k, rfl⟩) | (go_at_call 86; (with_reducible refine (K2.out _).mono ?_); rintro e w' ⟨rfl, k, rfl⟩) | (go_at_call 86; (with_reducible refine (K3.out _).mono ?_); rintro e w' ⟨rfl, k, rfl⟩) | (go_at_call 115; refine (rspan_any _ _ _).mono ?_; rintro e w3 ⟨rfl, hb3⟩; obtain ⟨hcw3, hfw3⟩ := bcell hb3; have hzw3 := Below.size hb3; (try simp at hzw3); have hzw30 : w.heap.size < w3.heap.size := (by omega); have hzw31 : w.heap.size + 1 < w3.heap.size := (by omega); have hzw32 : w.heap.size + 1 + 1 < w3.heap.size := (by omega)))
  refine wp_loop_rounds 3 ?_
  rw [rounds_succ]
  go_wp2_with (first | (go_at_call 84; (with_reducible refine (H0.out _).mono ?_); rintro e w' ⟨rfl, k, rfl⟩) | (go_at_call 84; (with_reducible refine (H1.out _).mono ?_); rintro e w' ⟨rfl, k, rfl⟩) | (go_at_call 84; (with_reducible refine (H2.out _).mono ?_); rintro e w' ⟨rfl, k, rfl⟩) | (go_at_call 84; (with_reducible refine (H3.out _).mono ?_); rintro e w' ⟨rfl, k, rfl⟩) | (go_at_call 86; (with_reducible refine (K0.out _).mono ?_); rintro e w' ⟨rfl, k, rfl⟩) | (go_at_call 86; (with_reducible refine (K1.out _).mono ?_); rintro e w' ⟨rfl, k, rfl⟩) | (go_at_call 86; (with_reducible refine (K2.out _).mono ?_); rintro e w' ⟨rfl, k, rfl⟩) | (go_at_call 86; (with_reducible refine (K3.out _).mono ?_); rintro e w' ⟨rfl, k, rfl⟩) | (go_at_call 115; refine (rspan_any _ _ _).mono ?_; rintro e w3 ⟨rfl, hb3⟩; obtain ⟨hcw3, hfw3⟩ := bcell hb3; have hzw3 := Below.size hb3; (try simp at hzw3); have hzw30 : w.heap.size < w3.heap.size := (by omega); have hzw31 : w.heap.size + 1 < w3.heap.size := (by omega); have hzw32 : w.heap.size + 1 + 1 < w3.heap.size := (by omega)))
  refine wp_loop_rounds 3 ?_
  rw [rounds_succ]
  go_wp2_with (first | (go_at_call 84; (with_reducible refine (H0.out _).mono ?_); rintro e w' ⟨rfl, k, rfl⟩) | (go_at_call 84; (with_reducible refine (H1.out _).mono ?_); rintro e w' ⟨rfl, k, rfl⟩) | (go_at_call 84; (with_reducible refine (H2.out _).mono ?_); rintro e w' ⟨rfl, k, rfl⟩) | (go_at_call 84; (with_reducible refine (H3.out _).mono ?_); rintro e w' ⟨rfl, k, rfl⟩) | (go_at_call 86; (with_reducible refine (K0.out _).mono ?_); rintro e w' ⟨rfl, k, rfl⟩) | (go_at_call 86; (with_reducible refine (K1.out _).mono ?_); rintro e w' ⟨rfl, k, rfl⟩) | (go_at_call 86; (with_reducible refine (K2.out _).mono ?_); rintro e w' ⟨rfl, k, rfl⟩) | (go_at_call 86; (with_reducible refine (K3.out _).mono ?_); rintro e w' ⟨rfl, k, rfl⟩) | (go_at_call 115; refine (rspan_any _ _ _).mono ?_; rintro e w3 ⟨rfl, hb3⟩; obtain ⟨hcw3, hfw3⟩ := bcell hb3; have hzw3 := Below.size hb3; (try simp at hzw3); have hzw30 : w.heap.size < w3.heap.size := (by omega); have hzw31 : w.heap.size + 1 < w3.heap.size := (by omega); have hzw32 : w.heap.size + 1 + 1 < w3.heap.size := (by omega)))
  rw [rounds_succ]
  go_wp2_with (first | (go_at_call 84; (with_reducible refine (H0.out _).mono ?_); rintro e w' ⟨rfl, k, rfl⟩) | (go_at_call 84; (with_reducible refine (H1.out _).mono ?_); rintro e w' ⟨rfl, k, rfl⟩) | (go_at_call 84; (with_reducible refine (H2.out _).mono ?_); rintro e w' ⟨rfl, k, rfl⟩) | (go_at_call 84; (with_reducible refine (H3.out _).mono ?_); rintro e w' ⟨rfl, k, rfl⟩) | (go_at_call 86; (with_reducible refine (K0.out _).mono ?_); rintro e w' ⟨rfl, k, rfl⟩) | (go_at_call 86; (with_reducible refine (K1.out _).mono ?_); rintro e w' ⟨rfl, k, rfl⟩) | (go_at_call 86; (with_reducible refine (K2.out _).mono ?_); rintro e w' ⟨rfl, k, rfl⟩) | (go_at_call 86; (with_reducible refine (K3.out _).mono ?_); rintro e w' ⟨rfl, k, rfl⟩) | (go_at_call 115; refine (rspan_any _ _ _).mono ?_; rintro e w3 ⟨rfl, hb3⟩; obtain ⟨hcw3, hfw3⟩ := bcell hb3; have hzw3 := Below.size hb3; (try simp at hzw3); have hzw30 : w.heap.size < w3.heap.size := (by omega); have hzw31 : w.heap.size + 1 < w3.heap.size := (by omega); have hzw32 : w.heap.size + 1 + 1 < w3.heap.size := (by omega)))
  rw [rounds_succ]
  go_wp2_with (first | (go_at_call 84; (with_reducible refine (H0.out _).mono ?_); rintro e w' ⟨rfl, k, rfl⟩) | (go_at_call 84; (with_reducible refine (H1.out _).mono ?_); rintro e w' ⟨rfl, k, rfl⟩) | (go_at_call 84; (with_reducible refine (H2.out _).mono ?_); rintro e w' ⟨rfl, k, rfl⟩) | (go_at_call 84; (with_reducible refine (H3.out _).mono ?_); rintro e w' ⟨rfl, k, rfl⟩) | (go_at_call 86; (with_reducible refine (K0.out _).mono ?_); rintro e w' ⟨rfl, k, rfl⟩) | (go_at_call 86; (with_reducible refine (K1.out _).mono ?_); rintro e w' ⟨rfl, k, rfl⟩) | (go_at_call 86; (with_reducible refine (K2.out _).mono ?_); rintro e w' ⟨rfl, k, rfl⟩) | (go_at_call 86; (with_reducible refine (K3.out _).mono ?_); rintro e w' ⟨rfl, k, rfl⟩) | (go_at_call 115; refine (rspan_any _ _ _).mono ?_; rintro e w3 ⟨rfl, hb3⟩; obtain ⟨hcw3, hfw3⟩ := bcell hb3; have hzw3 := Below.size hb3; (try simp at hzw3); have hzw30 : w.heap.size < w3.heap.size := (by omega); have hzw31 : w.heap.size + 1 < w3.heap.size := (by omega); have hzw32 : w.heap.size + 1 + 1 < w3.heap.size := (by omega)))
  rw [rounds_succ]
  go_wp2_with (first | (go_at_call 84; (with_reducible refine (H0.out _).mono ?_); rintro e w' ⟨rfl, k, rfl⟩) | (go_at_call 84; (with_reducible refine (H1.out _).mono ?_); rintro e w' ⟨rfl, k, rfl⟩) | (go_at_call 84; (with_reducible refine (H2.out _).mono ?_); rintro e w' ⟨rfl, k, rfl⟩) | (go_at_call 84; (with_reducible refine (H3.out _).mono ?_); rintro e w' ⟨rfl, k, rfl⟩) | (go_at_call 86; (with_reducible refine (K0.out _).mono ?_); rintro e w' ⟨rfl, k, rfl⟩) | (go_at_call 86; (with_reducible refine (K1.out _).mono ?_); rintro e w' ⟨rfl, k, rfl⟩) | (go_at_call 86; (with_reducible refine (K2.out _).mono ?_); rintro e w' ⟨rfl, k, rfl⟩) | (go_at_call 86; (with_reducible refine (K3.out _).mono ?_); rintro e w' ⟨rfl, k, rfl⟩) | (go_at_call 115; refine (rspan_any _ _ _).mono ?_; rintro e w3 ⟨rfl, hb3⟩; obtain ⟨hcw3, hfw3⟩ := bcell hb3; have hzw3 := Below.size hb3; (try simp at hzw3); have hzw30 : w.heap.size < w3.heap.size := (by omega); have hzw31 : w.heap.size + 1 < w3.heap.size := (by omega); have hzw32 : w.heap.size + 1 + 1 < w3.heap.size := (by omega)))
  refine wp_loop_rounds 3 ?_
  rw [rounds_succ]
  go_wp2_with (first | (go_at_call 84; (with_reducible refine (H0.out _).mono ?_); rintro e w' ⟨rfl, k, rfl⟩) | (go_at_call 84; (with_reducible refine (H1.out _).mono ?_); rintro e w' ⟨rfl, k, rfl⟩) | (go_at_call 84; (with_reducible refine (H2.out _).mono ?_); rintro e w' ⟨rfl, k, rfl⟩) | (go_at_call 84; (with_reducible refine (H3.out _).mono ?_); rintro e w' ⟨rfl, k, rfl⟩) | (go_at_call 86; (with_reducible refine (K0.out _).mono ?_); rintro e w' ⟨rfl, k, rfl⟩) | (go_at_call 86; (with_reducible refine (K1.out _).mono ?_); rintro e w' ⟨rfl, k, rfl⟩) | (go_at_call 86; (with_reducible refine (K2.out _).mono ?_); rintro e w' ⟨rfl, k, rfl⟩) | (go_at_call 86; (with_reducible refine (K3.out _).mono ?_); rintro e w' ⟨rfl, k, rfl⟩) | (go_at_call 115; refine (rspan_any _ _ _).mono ?_; rintro e w3 ⟨rfl, hb3⟩; obtain ⟨hcw3, hfw3⟩ := bcell hb3; have hzw3 := Below.size hb3; (try simp at hzw3); have hzw30 : w.heap.size < w3.heap.size := (by omega); have hzw31 : w.heap.size + 1 < w3.heap.size := (by omega); have hzw32 : w.heap.size + 1 + 1 < w3.heap.size := (by omega)))
  rw [rounds_succ]
  go_wp2_with (first | (go_at_call 84; (with_reducible refine (H0.out _).mono ?_); rintro e w' ⟨rfl, k, rfl⟩) | (go_at_call 84; (with_reducible refine (H1.out _).mono ?_); rintro e w' ⟨rfl, k, rfl⟩) | (go_at_call 84; (with_reducible refine (H2.out _).mono ?_); rintro e w' ⟨rfl, k, rfl⟩) | (go_at_call 84; (with_reducible refine (H3.out _).mono ?_); rintro e w' ⟨rfl, k, rfl⟩) | (go_at_call 86; (with_reducible refine (K0.out _).mono ?_); rintro e w' ⟨rfl, k, rfl⟩) | (go_at_call 86; (with_reducible refine (K1.out _).mono ?_); rintro e w' ⟨rfl, k, rfl⟩) | (go_at_call 86; (with_reducible refine (K2.out _).mono ?_); rintro e w' ⟨rfl, k, rfl⟩) | (go_at_call 86; (with_reducible refine (K3.out _).mono ?_); rintro e w' ⟨rfl, k, rfl⟩) | (go_at_call 115; refine (rspan_any _ _ _).mono ?_; rintro e w3 ⟨rfl, hb3⟩; obtain ⟨hcw3, hfw3⟩ := bcell hb3; have hzw3 := Below.size hb3; (try simp at hzw3); have hzw30 : w.heap.size < w3.heap.size := (by omega); have hzw31 : w.heap.size + 1 < w3.heap.size := (by omega); have hzw32 : w.heap.size + 1 + 1 < w3.heap.size := (by omega)))
  rw [rounds_succ]
  go_wp2_with (first | (go_at_call 84; (with_reducible refine (H0.out _).mono ?_); rintro e w' ⟨rfl, k, rfl⟩) | (go_at_call 84; (with_reducible refine (H1.out _).mono ?_); rintro e w' ⟨rfl, k, rfl⟩) | (go_at_call 84; (with_reducible refine (H2.out _).mono ?_); rintro e w' ⟨rfl, k, rfl⟩) | (go_at_call 84; (with_reducible refine (H3.out _).mono ?_); rintro e w' ⟨rfl, k, rfl⟩) | (go_at_call 86; (with_reducible refine (K0.out _).mono ?_); rintro e w' ⟨rfl, k, rfl⟩) | (go_at_call 86; (with_reducible refine (K1.out _).mono ?_); rintro e w' ⟨rfl, k, rfl⟩) | (go_at_call 86; (with_reducible refine (K2.out _).mono ?_); rintro e w' ⟨rfl, k, rfl⟩) | (go_at_call 86; (with_reducible refine (K3.out _).mono ?_); rintro e w' ⟨rfl, k, rfl⟩) | (go_at_call 115; refine (rspan_any _ _ _).mono ?_; rintro e w3 ⟨rfl, hb3⟩; obtain ⟨hcw3, hfw3⟩ := bcell hb3; have hzw3 := Below.size hb3; (try simp at hzw3); have hzw30 : w.heap.size < w3.heap.size := (by omega); have hzw31 : w.heap.size + 1 < w3.heap.size := (by omega); have hzw32 : w.heap.size + 1 + 1 < w3.heap.size := (by omega)))
  rw [rounds_succ]
  go_wp2_with (first | (go_at_call 84; (with_reducible refine (H0.out _).mono ?_); rintro e w' ⟨rfl, k, rfl⟩) | (go_at_call 84; (with_reducible refine (H1.out _).mono ?_); rintro e w' ⟨rfl, k, rfl⟩) | (go_at_call 84; (with_reducible refine (H2.out _).mono ?_); rintro e w' ⟨rfl, k, rfl⟩) | (go_at_call 84; (with_reducible refine (H3.out _).mono ?_); rintro e w' ⟨rfl, k, rfl⟩) | (go_at_call 86; (with_reducible refine (K0.out _).mono ?_); rintro e w' ⟨rfl, k, rfl⟩) | (go_at_call 86; (with_reducible refine (K1.out _).mono ?_); rintro e w' ⟨rfl, k, rfl⟩) | (go_at_call 86; (with_reducible refine (K2.out _).mono ?_); rintro e w' ⟨rfl, k, rfl⟩) | (go_at_call 86; (with_reducible refine (K3.out _).mono ?_); rintro e w' ⟨rfl, k, rfl⟩) | (go_at_call 115; refine (rspan_any _ _ _).mono ?_; rintro e w3 ⟨rfl, hb3⟩; obtain ⟨hcw3, hfw3⟩ := bcell hb3; have hzw3 := Below.size hb3; (try simp at hzw3); have hzw30 : w.heap.size < w3.heap.size := (by omega); have hzw31 : w.heap.size + 1 < w3.heap.size := (by omega); have hzw32 : w.heap.size + 1 + 1 < w3.heap.size := (by omega)))
  generalize spanS (m3, n3) = S
  exact bodyPost_ret (v := .tuple #[.agg #[.int .i64 (S.1.1), .int .i64 (S.1.2)], .int .i64 S.2]) (by simp only [results, Try.results116]; go_simp) rfl ⟨rfl, (by repeat' (first | exact Below.refl _ _ | assumption | apply bDrewN | apply bDrew | apply bAlloc | (refine bSet ?_ ?_ _) | (refine bStep ?_ (by assumption)) | omega | (simp <;> omega)))⟩


end Go.Proofs.Ytjnllfebeeiilaa
