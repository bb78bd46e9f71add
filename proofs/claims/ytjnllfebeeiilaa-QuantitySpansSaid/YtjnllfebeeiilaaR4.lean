/-
  The walk of the reference's Div.
-/
import Derived.Test.YtjnllfebeeiilaaR3
set_option linter.unusedSimpArgs false
set_option linter.unusedVariables false
namespace Go.Proofs.Ytjnllfebeeiilaa
open Go.RowKit

theorem Box2.drewN {w W : World} {b c r : Nat} {v0 v1 x0 x1 : Value} (h : Box2 w b c r v0 v1 x0 x1 W) (n : Nat) : Box2 w b c r v0 v1 x0 x1 (W.drewN n) := h.step (bDrewN (Below.refl _ _))

theorem cellStep {W w2 : World} {p : Addr} {v : Value} (hb : Below W.heap.size W w2) (h : W.cell? p = some v) : w2.cell? p = some v := cell_step h hb
theorem freeStep {W w2 : World} {p : Addr} {v : Value} (hb : Below W.heap.size W w2) (h : W.cell? p = some v) (hf : W.frozen? p = false) : w2.frozen? p = false := free_step h hf hb

set_option maxHeartbeats 4000000 in
set_option maxRecDepth 20000 in
theorem RDiv_core (a1 a2 b1 b2 n : Int) (w : World) (h : okS (a1, a2) = true) (h' : okS (b1, b2) = true) (hn : isQ n = true) (hz : ¬ (b1 ≤ 0 ∧ 0 ≤ b2)) :
    Calls Try.prog 49 #[.agg #[.int .i64 a1, .int .i64 a2], .agg #[.int .i64 b1, .int .i64 b2], .int .i64 n] w fun e w' => e = .returned (.tuple #[.agg #[.int .i64 (spanS (foldS (rt a1 n b1) [rt a1 n b2, rt a2 n b1, rt a2 n b2])).1.1, .int .i64 (spanS (foldS (rt a1 n b1) [rt a1 n b2, rt a2 n b1, rt a2 n b2])).1.2], .int .i64 (spanS (foldS (rt a1 n b1) [rt a1 n b2, rt a2 n b1, rt a2 n b2])).2]) ∧ Below w.heap.size w w' := by
  obtain ⟨h1, h2, h3⟩ := okS_bd h
  obtain ⟨h4, h5, h6⟩ := okS_bd h'
  obtain ⟨q3, q4⟩ := (isQ_iff _).1 hn
  simp only [rt]
  dsimp only at *
  rw [← corners_fold _ _ _ _ _ _ _ _ (dn_bd _ _ _ (by omega)).2 (up_bd _ _ _ (by omega)).1]
  have H0 := Lib.hid (fun w => Down_any a1 n b1 w (by omega) (by omega) (by omega) (by omega) (by omega) (by omega) (by omega))
  have K0 := Lib.hid (fun w => Up_any a1 n b1 w (by omega) (by omega) (by omega) (by omega) (by omega) (by omega) (by omega))
  have H1 := Lib.hid (fun w => Down_any a1 n b2 w (by omega) (by omega) (by omega) (by omega) (by omega) (by omega) (by omega))
  have K1 := Lib.hid (fun w => Up_any a1 n b2 w (by omega) (by omega) (by omega) (by omega) (by omega) (by omega) (by omega))
  have H2 := Lib.hid (fun w => Down_any a2 n b1 w (by omega) (by omega) (by omega) (by omega) (by omega) (by omega) (by omega))
  have K2 := Lib.hid (fun w => Up_any a2 n b1 w (by omega) (by omega) (by omega) (by omega) (by omega) (by omega) (by omega))
  have H3 := Lib.hid (fun w => Down_any a2 n b2 w (by omega) (by omega) (by omega) (by omega) (by omega) (by omega) (by omega))
  have K3 := Lib.hid (fun w => Up_any a2 n b2 w (by omega) (by omega) (by omega) (by omega) (by omega) (by omega) (by omega))
  generalize dn a1 n b1 = l0 at *
  generalize up a1 n b1 = u0 at *
  generalize dn a1 n b2 = l1 at *
  generalize up a1 n b2 = u1 at *
  generalize dn a2 n b1 = l2 at *
  generalize up a2 n b1 = u2 at *
  generalize dn a2 n b2 = l3 at *
  generalize up a2 n b2 = u3 at *
  obtain ⟨m0, hm0⟩ : ∃ m, min 1152921504606846976 l0 = m := ⟨_, rfl⟩
  obtain ⟨m1, hm1⟩ : ∃ m, min m0 l1 = m := ⟨_, rfl⟩
  obtain ⟨m2, hm2⟩ : ∃ m, min m1 l2 = m := ⟨_, rfl⟩
  obtain ⟨m3, hm3⟩ : ∃ m, min m2 l3 = m := ⟨_, rfl⟩
  obtain ⟨n0, hn0⟩ : ∃ m, max (-1152921504606846976) u0 = m := ⟨_, rfl⟩
  obtain ⟨n1, hn1⟩ : ∃ m, max n0 u1 = m := ⟨_, rfl⟩
  obtain ⟨n2, hn2⟩ : ∃ m, max n1 u2 = m := ⟨_, rfl⟩
  obtain ⟨n3, hn3⟩ : ∃ m, max n2 u3 = m := ⟨_, rfl⟩
  rw [hm0, hm1, hm2, hm3, hn0, hn1, hn2, hn3]
  rw [min_if] at hm0 hm1 hm2 hm3
  rw [max_if] at hn0 hn1 hn2 hn3
  have hzz : decide (b1 ≤ 0) = false ∨ (decide (b1 ≤ 0) = true ∧ decide (0 ≤ b2) = false) := by
    by_cases g : b1 ≤ 0
    · right; refine ⟨by simpa using g, ?_⟩
      simp; omega
    · left; simpa using g
  clear h1 h2 h3 h4 h5 h6 q3 q4 hz
  obtain ⟨S, hS0⟩ : ∃ S, spanS (m3, n3) = S := ⟨_, rfl⟩
  rw [hS0]
  have HS0 := Lib.hid hS0
  clear hS0
  rcases hzz with g1 | ⟨g1, g2⟩
  all_goals
    go_enter Try.func49, Try.ntmps49
    go_wp2_with (first | (go_at_call 114; refine (Valid_any _ _ _).mono ?_; rintro e w1 ⟨rfl, hb⟩; obtain ⟨hcw1, hfw1⟩ := bcell hb; have hzw1 := Below.size hb; (try simp at hzw1); have hzw10 : w.heap.size < w1.heap.size := (by omega); have hzw11 : w.heap.size + 1 < w1.heap.size := (by omega); have hzw12 : w.heap.size + 1 + 1 < w1.heap.size := (by omega)) | (go_at_call 81; refine (Is_any _ _).mono ?_; rintro e w' ⟨rfl, rfl⟩))
    obtain ⟨X, hX⟩ : ∃ X, w1.heap.size = X := ⟨_, rfl⟩
    have hS : Box2 w X (X + 1) (w.heap.size + 1 + 1) (.int .i64 a1) (.int .i64 a2) (.int .i64 b1) (.int .i64 b2) ((w1.alloc (.cells #[.int .i64 a1, .int .i64 a2] 2)).alloc (.cells #[.int .i64 b1, .int .i64 b2] 2)) := by
      rw [← hX]
      clear hX
      refine ⟨?_, ?_, ?_, ?_, ⟨⟨.int .i64 0, .int .i64 0, ?_, ?_⟩, ?_, ?_⟩, (by repeat' (first | exact Below.refl _ _ | assumption | apply bDrewN | apply bDrew | apply bAlloc | (refine bSet ?_ ?_ _) | (refine bStep ?_ (by assumption)) | omega | (simp <;> omega)))⟩ <;> go_simp
    rw [hX]
    generalize (w1.alloc (.cells #[.int .i64 a1, .int .i64 a2] 2)).alloc (.cells #[.int .i64 b1, .int .i64 b2] 2) = W2 at *
    clear hb hcw1 hfw1 hzw1 hzw10 hzw11 hzw12 hX
    refine wp_loop_rounds 3 ?_
    rw [rounds_succ]
    go_wp2
    refine wp_loop_rounds 3 ?_
    rw [rounds_succ]
    go_wp2
    go_region_held3 (fun W => W.cell? ⟨X, 0, none⟩ = some (.int .i64 a1) ∧ W.cell? ⟨X, 1, none⟩ = some (.int .i64 a2) ∧ W.cell? ⟨X + 1, 0, none⟩ = some (.int .i64 b1) ∧ W.cell? ⟨X + 1, 1, none⟩ = some (.int .i64 b2) ∧ ResBox (w.heap.size + 1 + 1) W ∧ Below w.heap.size w W) ((first | exact Box2.drew hS | exact Box2.drew (by assumption) | exact Box2.drewN (by assumption) _ | exact Box2.step (by assumption) (by assumption) | exact Box2.alloc (by assumption) _)) ((first | (go_at_call 84; (with_reducible refine (H0.out _).mono ?_); rintro e w' ⟨rfl, k, rfl⟩)))
    go_wp2
    go_region_held3 (fun W => W.cell? ⟨X, 0, none⟩ = some (.int .i64 a1) ∧ W.cell? ⟨X, 1, none⟩ = some (.int .i64 a2) ∧ W.cell? ⟨X + 1, 0, none⟩ = some (.int .i64 b1) ∧ W.cell? ⟨X + 1, 1, none⟩ = some (.int .i64 b2) ∧ ResBox (w.heap.size + 1 + 1) W ∧ Below w.heap.size w W) ((first | exact Box2.drew hS | exact Box2.drew (by assumption) | exact Box2.drewN (by assumption) _ | exact Box2.step (by assumption) (by assumption) | exact Box2.alloc (by assumption) _)) ((first | (go_at_call 86; (with_reducible refine (K0.out _).mono ?_); rintro e w' ⟨rfl, k, rfl⟩)))
    go_wp2
    rw [rounds_succ]
    go_wp2
    go_region_held3 (fun W => W.cell? ⟨X, 0, none⟩ = some (.int .i64 a1) ∧ W.cell? ⟨X, 1, none⟩ = some (.int .i64 a2) ∧ W.cell? ⟨X + 1, 0, none⟩ = some (.int .i64 b1) ∧ W.cell? ⟨X + 1, 1, none⟩ = some (.int .i64 b2) ∧ ResBox (w.heap.size + 1 + 1) W ∧ Below w.heap.size w W) ((first | exact Box2.drew hS | exact Box2.drew (by assumption) | exact Box2.drewN (by assumption) _ | exact Box2.step (by assumption) (by assumption) | exact Box2.alloc (by assumption) _)) ((first | (go_at_call 84; (with_reducible refine (H1.out _).mono ?_); rintro e w' ⟨rfl, k, rfl⟩)))
    go_wp2
    go_region_held3 (fun W => W.cell? ⟨X, 0, none⟩ = some (.int .i64 a1) ∧ W.cell? ⟨X, 1, none⟩ = some (.int .i64 a2) ∧ W.cell? ⟨X + 1, 0, none⟩ = some (.int .i64 b1) ∧ W.cell? ⟨X + 1, 1, none⟩ = some (.int .i64 b2) ∧ ResBox (w.heap.size + 1 + 1) W ∧ Below w.heap.size w W) ((first | exact Box2.drew hS | exact Box2.drew (by assumption) | exact Box2.drewN (by assumption) _ | exact Box2.step (by assumption) (by assumption) | exact Box2.alloc (by assumption) _)) ((first | (go_at_call 86; (with_reducible refine (K1.out _).mono ?_); rintro e w' ⟨rfl, k, rfl⟩)))
    go_wp2
    rw [rounds_succ]
    go_wp2
    rw [rounds_succ]
    go_wp2
    refine wp_loop_rounds 3 ?_
    rw [rounds_succ]
    go_wp2
    go_region_held3 (fun W => W.cell? ⟨X, 0, none⟩ = some (.int .i64 a1) ∧ W.cell? ⟨X, 1, none⟩ = some (.int .i64 a2) ∧ W.cell? ⟨X + 1, 0, none⟩ = some (.int .i64 b1) ∧ W.cell? ⟨X + 1, 1, none⟩ = some (.int .i64 b2) ∧ ResBox (w.heap.size + 1 + 1) W ∧ Below w.heap.size w W) ((first | exact Box2.drew hS | exact Box2.drew (by assumption) | exact Box2.drewN (by assumption) _ | exact Box2.step (by assumption) (by assumption) | exact Box2.alloc (by assumption) _)) ((first | (go_at_call 84; (with_reducible refine (H2.out _).mono ?_); rintro e w' ⟨rfl, k, rfl⟩)))
    go_wp2
    go_region_held3 (fun W => W.cell? ⟨X, 0, none⟩ = some (.int .i64 a1) ∧ W.cell? ⟨X, 1, none⟩ = some (.int .i64 a2) ∧ W.cell? ⟨X + 1, 0, none⟩ = some (.int .i64 b1) ∧ W.cell? ⟨X + 1, 1, none⟩ = some (.int .i64 b2) ∧ ResBox (w.heap.size + 1 + 1) W ∧ Below w.heap.size w W) ((first | exact Box2.drew hS | exact Box2.drew (by assumption) | exact Box2.drewN (by assumption) _ | exact Box2.step (by assumption) (by assumption) | exact Box2.alloc (by assumption) _)) ((first | (go_at_call 86; (with_reducible refine (K2.out _).mono ?_); rintro e w' ⟨rfl, k, rfl⟩)))
    go_wp2
    rw [rounds_succ]
    go_wp2
    go_region_held3 (fun W => W.cell? ⟨X, 0, none⟩ = some (.int .i64 a1) ∧ W.cell? ⟨X, 1, none⟩ = some (.int .i64 a2) ∧ W.cell? ⟨X + 1, 0, none⟩ = some (.int .i64 b1) ∧ W.cell? ⟨X + 1, 1, none⟩ = some (.int .i64 b2) ∧ ResBox (w.heap.size + 1 + 1) W ∧ Below w.heap.size w W) ((first | exact Box2.drew hS | exact Box2.drew (by assumption) | exact Box2.drewN (by assumption) _ | exact Box2.step (by assumption) (by assumption) | exact Box2.alloc (by assumption) _)) ((first | (go_at_call 84; (with_reducible refine (H3.out _).mono ?_); rintro e w' ⟨rfl, k, rfl⟩)))
    go_wp2
    go_region_held3 (fun W => W.cell? ⟨X, 0, none⟩ = some (.int .i64 a1) ∧ W.cell? ⟨X, 1, none⟩ = some (.int .i64 a2) ∧ W.cell? ⟨X + 1, 0, none⟩ = some (.int .i64 b1) ∧ W.cell? ⟨X + 1, 1, none⟩ = some (.int .i64 b2) ∧ ResBox (w.heap.size + 1 + 1) W ∧ Below w.heap.size w W) ((first | exact Box2.drew hS | exact Box2.drew (by assumption) | exact Box2.drewN (by assumption) _ | exact Box2.step (by assumption) (by assumption) | exact Box2.alloc (by assumption) _)) ((first | (go_at_call 86; (with_reducible refine (K3.out _).mono ?_); rintro e w' ⟨rfl, k, rfl⟩)))
    go_wp2
    rw [rounds_succ]
    go_wp2
    rw [rounds_succ]
    obtain ⟨_, _, _, _, ⟨⟨x0, x1, hx0, hx1⟩, hx2, hx3⟩, hB⟩ := ‹_ ∧ _ ∧ _ ∧ _ ∧ ResBox _ _ ∧ Below _ _ _›
    go_wp2_with (go_at_call 115; refine (rspan_any _ _ _).mono ?_; rw [HS0.out]; rintro e w3 ⟨rfl, hb3⟩; obtain ⟨hcw3, hfw3⟩ := bcell hb3; have y0 := cellStep hb3 hx0; have y1 := cellStep hb3 hx1; have y2 := freeStep hb3 hx0 hx2; have y3 := freeStep hb3 hx1 hx3)
    exact bodyPost_ret (v := .tuple #[.agg #[.int .i64 (S.1.1), .int .i64 (S.1.2)], .int .i64 S.2]) (by simp only [results, Try.results49]; go_simp) rfl ⟨rfl, (by repeat' (first | exact Below.refl _ _ | assumption | apply bDrewN | apply bDrew | apply bAlloc | (refine bSet ?_ ?_ _) | (refine bStep ?_ (by assumption)) | omega | (simp <;> omega)))⟩


end Go.Proofs.Ytjnllfebeeiilaa
