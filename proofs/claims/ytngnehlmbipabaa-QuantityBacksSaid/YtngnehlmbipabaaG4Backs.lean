/-
  The walks of Neg, Add, Sub, Grow, Clip, Width, Middle, Check, Point.
-/
import Derived.Test.YtngnehlmbipabaaG3Backs
set_option linter.unusedSimpArgs false
set_option linter.unusedVariables false
namespace Go.Proofs.Ytngnehlmbipabaa
open Go.RowKit

def negS (s : Int × Int) : (Int × Int) × Int := if okS s = true then ((-s.2, -s.1), 0) else E2
theorem negS_no {s : Int × Int} (h : okS s = false) : negS s = E2 := if_neg (by simp [h])
theorem negS_yes {s : Int × Int} (h : okS s = true) : negS s = ((-s.2, -s.1), 0) := if_pos h
def addS (a b : Int × Int) : (Int × Int) × Int := if okS a = true ∧ okS b = true then spanS (a.1 + b.1, a.2 + b.2) else E2
theorem addS_no {a b : Int × Int} (h : (okS a && okS b) = false) : addS a b = E2 := if_neg (by simpa using h)
theorem addS_yes {a b : Int × Int} (h : (okS a && okS b) = true) : addS a b = spanS (a.1 + b.1, a.2 + b.2) := if_pos (by simpa using h)
def subS (a b : Int × Int) : (Int × Int) × Int := if okS a = true ∧ okS b = true then spanS (a.1 - b.2, a.2 - b.1) else E2
theorem subS_no {a b : Int × Int} (h : (okS a && okS b) = false) : subS a b = E2 := if_neg (by simpa using h)
theorem subS_yes {a b : Int × Int} (h : (okS a && okS b) = true) : subS a b = spanS (a.1 - b.2, a.2 - b.1) := if_pos (by simpa using h)
def growS (s : Int × Int) (d : Int) : (Int × Int) × Int := if okS s = true ∧ 0 ≤ d ∧ isQ d = true then spanS (s.1 - d, s.2 + d) else E2
def clipS (s : Int × Int) (lo hi : Int) : (Int × Int) × Int := if okS s = true ∧ okS (lo, hi) = true then ((min (max s.1 lo) hi, min (max s.2 lo) hi), 0) else E2
theorem clipS_no {s : Int × Int} {lo hi : Int} (h : (okS s && okS (lo, hi)) = false) : clipS s lo hi = E2 := if_neg (by simpa using h)
theorem clipS_yes {s : Int × Int} {lo hi : Int} (h : (okS s && okS (lo, hi)) = true) : clipS s lo hi = ((min (max s.1 lo) hi, min (max s.2 lo) hi), 0) := if_pos (by simpa using h)
def widthS (s : Int × Int) : Int × Int := if okS s = true then fitS (s.2 - s.1) else (0, 2)
theorem widthS_no {s : Int × Int} (h : okS s = false) : widthS s = (0, 2) := if_neg (by simp [h])
theorem widthS_yes {s : Int × Int} (h : okS s = true) : widthS s = fitS (s.2 - s.1) := if_pos h
def middleS (s : Int × Int) : Int × Int := if okS s = true then ((s.1 + s.2) / 2, 0) else (0, 2)
theorem middleS_no {s : Int × Int} (h : okS s = false) : middleS s = (0, 2) := if_neg (by simp [h])
theorem middleS_yes {s : Int × Int} (h : okS s = true) : middleS s = ((s.1 + s.2) / 2, 0) := if_pos h
def checkS (s : Int × Int) : Int := if okS s = true then 0 else 2
def pointS (x : Int) : (Int × Int) × Int := if isQ x = true then ((x, x), 0) else E2

theorem growS_n1 {s : Int × Int} {d : Int} (h : okS s = false) : growS s d = E2 := by simp [growS, h]
theorem growS_n2 {s : Int × Int} {d : Int} (h : d < 0) : growS s d = E2 := by unfold growS; rw [if_neg (by omega)]
theorem growS_n3 {s : Int × Int} {d : Int} (h : isQ d = false) : growS s d = E2 := by simp [growS, h]
theorem growS_yes {s : Int × Int} {d : Int} (h : okS s = true) (h2 : 0 ≤ d) (h3 : isQ d = true) : growS s d = spanS (s.1 - d, s.2 + d) := if_pos ⟨h, h2, h3⟩

set_option maxHeartbeats 400000 in
theorem Middle_any (s : Int × Int) (w : World) : Calls Try.prog 72 #[.agg #[.int .i64 s.1, .int .i64 s.2]] w fun e w' => e = .returned (.tuple #[.int .i64 (middleS s).1, .int .i64 (middleS s).2]) ∧ Below w.heap.size w w' := by
  cases h : okS s
  · rw [middleS_no h]
    obtain ⟨a1, a2⟩ := s
    go_enter Try.func72, Try.ntmps72
    go_wp2_with (go_at_call 54; refine (valid_oneN _ _ _ _ _ _ _ (by simp)).mono ?_; rintro e w1 ⟨rfl, hb⟩; obtain ⟨hcw1, hfw1⟩ := bcell hb; have hzw1 := Below.size hb; (try simp at hzw1); have hzw10 : w.heap.size < w1.heap.size := (by omega))
    go_ret2
    exact ⟨rfl, (by repeat' (first | exact Below.refl _ _ | assumption | apply bDrewN | apply bDrew | apply bAlloc | (refine bSet ?_ ?_ _) | (refine bStep ?_ (by assumption)) | omega | (simp <;> omega)))⟩
  rw [middleS_yes h]
  obtain ⟨h1, h2, h3⟩ := okS_bd h
  obtain ⟨a1, a2⟩ := s
  dsimp only at *
  go_enter Try.func72, Try.ntmps72
  go_wp2_with (go_at_call 54; refine (valid_oneN _ _ _ _ _ _ _ (by simp)).mono ?_; rintro e w1 ⟨rfl, hb⟩; obtain ⟨hcw1, hfw1⟩ := bcell hb; have hzw1 := Below.size hb; (try simp at hzw1); have hzw10 : w.heap.size < w1.heap.size := (by omega))
  go_ret2
  exact ⟨by simp, (by repeat' (first | exact Below.refl _ _ | assumption | apply bDrewN | apply bDrew | apply bAlloc | (refine bSet ?_ ?_ _) | (refine bStep ?_ (by assumption)) | omega | (simp <;> omega)))⟩

end Go.Proofs.Ytngnehlmbipabaa

/-
  The walks of Scale, Mul, Div, Square.
-/
set_option linter.unusedSimpArgs false
set_option linter.unusedVariables false
namespace Go.Proofs.Ytngnehlmbipabaa
open Go.RowKit

/-- The span of one number x n / d. -/
def rt (x n d : Int) : Int × Int := (dn x n d, up x n d)
def scaleS (s : Int × Int) (n d : Int) : (Int × Int) × Int :=
  if okS s = true ∧ isQ n = true ∧ isDen d = true then spanS (foldS (rt s.1 n d) [rt s.2 n d]) else E2
def mulS (a b : Int × Int) (d : Int) : (Int × Int) × Int :=
  if (okS a && okS b) = true ∧ isDen d = true then spanS (foldS (rt a.1 b.1 d) [rt a.1 b.2 d, rt a.2 b.1 d, rt a.2 b.2 d]) else E2
def divS (a b : Int × Int) (n : Int) : (Int × Int) × Int :=
  if (okS a && okS b) = true ∧ isQ n = true then (if b.1 ≤ 0 ∧ 0 ≤ b.2 then ((0, 0), 9) else spanS (foldS (rt a.1 n b.1) [rt a.1 n b.2, rt a.2 n b.1, rt a.2 n b.2])) else E2
/-- The number of a span that is nearest to 0. -/
def mid0 (s : Int × Int) : Int := min (max s.1 0) s.2
def squareS (s : Int × Int) (d : Int) : (Int × Int) × Int :=
  if okS s = true ∧ isDen d = true then spanS (foldS (rt (mid0 s) (mid0 s) d) [rt s.1 s.1 d, rt s.2 s.2 d]) else E2

set_option maxHeartbeats 1000000 in
set_option maxRecDepth 20000 in
theorem Mul_any (a b : Int × Int) (d : Int) (w : World) : Calls Try.prog 38 #[.agg #[.int .i64 a.1, .int .i64 a.2], .agg #[.int .i64 b.1, .int .i64 b.2], .int .i64 d] w fun e w' => e = .returned (.tuple #[.agg #[.int .i64 (mulS a b d).1.1, .int .i64 (mulS a b d).1.2], .int .i64 (mulS a b d).2]) ∧ Below w.heap.size w w' := by
  cases h : (okS a && okS b)
  · rw [show mulS a b d = E2 from by simp [mulS, h]]
    obtain ⟨a1, a2⟩ := a
    obtain ⟨b1, b2⟩ := b
    go_enter Try.func38, Try.ntmps38
    go_wp2_with (first | (go_at_call 54; refine (valid_twoN _ _ _ _ _ _ _ _ _ (by simp)).mono ?_; rintro e w1 ⟨rfl, hb⟩; obtain ⟨hcw1, hfw1⟩ := bcell hb; have hzw1 := Below.size hb; (try simp at hzw1); have hzw10 : w.heap.size < w1.heap.size := (by omega); have hzw11 : w.heap.size + 1 < w1.heap.size := (by omega); have hzw12 : w.heap.size + 1 + 1 < w1.heap.size := (by omega)) | (go_at_call 39; refine (is_any _ _).mono ?_; rintro e w' ⟨rfl, rfl⟩) | (go_at_call 45; refine (below_any _ _).mono ?_; rintro e w' ⟨rfl, rfl⟩))
    exact bodyPost_ret (v := .tuple #[.agg #[.int .i64 (0), .int .i64 (0)], .int .i64 2]) (by simp only [results, Try.results38]; go_simp) rfl ⟨rfl, (by repeat' (first | exact Below.refl _ _ | assumption | apply bDrewN | apply bDrew | apply bAlloc | (refine bSet ?_ ?_ _) | (refine bStep ?_ (by assumption)) | omega | (simp <;> omega)))⟩
  cases hd : isDen d
  · rw [show mulS a b d = E2 from by simp [mulS, hd]]
    obtain ⟨a1, a2⟩ := a
    obtain ⟨b1, b2⟩ := b
    go_enter Try.func38, Try.ntmps38
    go_wp2_with (first | (go_at_call 54; refine (valid_twoN _ _ _ _ _ _ _ _ _ (by simp)).mono ?_; rintro e w1 ⟨rfl, hb⟩; obtain ⟨hcw1, hfw1⟩ := bcell hb; have hzw1 := Below.size hb; (try simp at hzw1); have hzw10 : w.heap.size < w1.heap.size := (by omega); have hzw11 : w.heap.size + 1 < w1.heap.size := (by omega); have hzw12 : w.heap.size + 1 + 1 < w1.heap.size := (by omega)) | (go_at_call 39; refine (is_any _ _).mono ?_; rintro e w' ⟨rfl, rfl⟩) | (go_at_call 45; refine (below_any _ _).mono ?_; rintro e w' ⟨rfl, rfl⟩))
    exact bodyPost_ret (v := .tuple #[.agg #[.int .i64 (0), .int .i64 (0)], .int .i64 2]) (by simp only [results, Try.results38]; go_simp) rfl ⟨rfl, (by repeat' (first | exact Below.refl _ _ | assumption | apply bDrewN | apply bDrew | apply bAlloc | (refine bSet ?_ ?_ _) | (refine bStep ?_ (by assumption)) | omega | (simp <;> omega)))⟩
  rw [show mulS a b d = spanS (foldS (rt a.1 b.1 d) [rt a.1 b.2 d, rt a.2 b.1 d, rt a.2 b.2 d]) from if_pos ⟨h, hd⟩]
  have h' : okS a = true ∧ okS b = true := by simpa using h
  obtain ⟨h1, h2, h3⟩ := okS_bd h'.1
  obtain ⟨h4, h5, h6⟩ := okS_bd h'.2
  clear h'
  obtain ⟨q3, q4⟩ := (isDen_iff _).1 hd
  obtain ⟨a1, a2⟩ := a
  obtain ⟨b1, b2⟩ := b
  simp only [rt]
  dsimp only at *
  have H0 := Lib.hid (fun w => ratio_any a1 b1 d w (by omega) (by omega) (by omega) (by omega) (by omega) (by omega) (by omega))
  have H1 := Lib.hid (fun w => ratio_any a1 b2 d w (by omega) (by omega) (by omega) (by omega) (by omega) (by omega) (by omega))
  have H2 := Lib.hid (fun w => ratio_any a2 b1 d w (by omega) (by omega) (by omega) (by omega) (by omega) (by omega) (by omega))
  have H3 := Lib.hid (fun w => ratio_any a2 b2 d w (by omega) (by omega) (by omega) (by omega) (by omega) (by omega) (by omega))
  clear h1 h2 h3 h4 h5 h6 q3 q4
  generalize dn a1 b1 d = l0 at *
  generalize up a1 b1 d = u0 at *
  generalize dn a1 b2 d = l1 at *
  generalize up a1 b2 d = u1 at *
  generalize dn a2 b1 d = l2 at *
  generalize up a2 b1 d = u2 at *
  generalize dn a2 b2 d = l3 at *
  generalize up a2 b2 d = u3 at *
  generalize hS0 : spanS (foldS (l0, u0) [(l1, u1), (l2, u2), (l3, u3)]) = S at *
  have HS0 := Lib.hid hS0
  clear hS0
  go_enter Try.func38, Try.ntmps38
  go_wp2_with (first | (go_at_call 54; refine (valid_twoN _ _ _ _ _ _ _ _ _ (by simp)).mono ?_; rintro e w1 ⟨rfl, hb⟩; obtain ⟨hcw1, hfw1⟩ := bcell hb; have hzw1 := Below.size hb; (try simp at hzw1); have hzw10 : w.heap.size < w1.heap.size := (by omega); have hzw11 : w.heap.size + 1 < w1.heap.size := (by omega); have hzw12 : w.heap.size + 1 + 1 < w1.heap.size := (by omega)) | (go_at_call 39; refine (is_any _ _).mono ?_; rintro e w' ⟨rfl, rfl⟩) | (go_at_call 45; refine (below_any _ _).mono ?_; rintro e w' ⟨rfl, rfl⟩))
  have hS : Box2 w w.heap.size (w.heap.size + 1) (w.heap.size + 1 + 1) (.int .i64 a1) (.int .i64 a2) (.int .i64 b1) (.int .i64 b2) w1 := by
    refine ⟨?_, ?_, ?_, ?_, ⟨⟨.int .i64 0, .int .i64 0, ?_, ?_⟩, ?_, ?_⟩, (by repeat' (first | exact Below.refl _ _ | assumption | apply bDrewN | apply bDrew | apply bAlloc | (refine bSet ?_ ?_ _) | (refine bStep ?_ (by assumption)) | omega | (simp <;> omega)))⟩ <;> go_simp
  have n1 : w.heap.size ≠ w.heap.size + 1 + 1 := by omega
  have n2 : w.heap.size + 1 ≠ w.heap.size + 1 + 1 := by omega
  have n3 : w.heap.size ≤ w.heap.size + 1 + 1 := by omega
  have N1 := Lib.hid n1
  have N2 := Lib.hid n2
  have N3 := Lib.hid n3
  clear n1 n2 n3
  clear hb hcw1 hfw1 hzw1 hzw10 hzw11 hzw12
  go_region_held3 (fun W => W.cell? ⟨w.heap.size, 0, none⟩ = some (.int .i64 a1) ∧ W.cell? ⟨w.heap.size, 1, none⟩ = some (.int .i64 a2) ∧ W.cell? ⟨w.heap.size + 1, 0, none⟩ = some (.int .i64 b1) ∧ W.cell? ⟨w.heap.size + 1, 1, none⟩ = some (.int .i64 b2) ∧ ResBox (w.heap.size + 1 + 1) W ∧ Below w.heap.size w W) ((first | exact Box2.drew hS | exact Box2.step (by assumption) (by assumption) | exact Box2.alloc (by assumption) _ | exact Box2.set (by assumption) N3.out N1.out N2.out _ _)) ((first | (go_at_call 77; (with_reducible refine (H0.out _).mono ?_); rintro e w2 ⟨rfl, hb2⟩) | (go_at_call 77; (with_reducible refine (H1.out _).mono ?_); rintro e w2 ⟨rfl, hb2⟩) | (go_at_call 77; (with_reducible refine (H2.out _).mono ?_); rintro e w2 ⟨rfl, hb2⟩) | (go_at_call 77; (with_reducible refine (H3.out _).mono ?_); rintro e w2 ⟨rfl, hb2⟩) | (go_at_call 76; refine (around_fourN _ _ _ _ _ _ _ _ _ _ _ _ (by simp)).mono ?_; rw [HS0.out]; rintro e w3 ⟨rfl, hb3⟩) | (obtain ⟨_, _, _, _, ⟨⟨x0, x1, hx0, hx1⟩, hx2, hx3⟩, _⟩ := ‹_ ∧ _ ∧ _ ∧ _ ∧ ResBox _ _ ∧ _›; go_simp)))
  go_wp2
  have hB := (‹_ ∧ _ ∧ _ ∧ _ ∧ ResBox _ _ ∧ Below _ _ _›).2.2.2.2.2
  exact bodyPost_ret (v := .tuple #[.agg #[.int .i64 S.1.1, .int .i64 S.1.2], .int .i64 S.2]) (by simp only [results, Try.results38]; go_simp) rfl ⟨rfl, hB⟩

end Go.Proofs.Ytngnehlmbipabaa
