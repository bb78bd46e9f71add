/-
  The walks of Neg, Add, Sub, Grow, Clip, Width, Middle, Check, Point.
-/
import Derived.Test.YtjnllfebeeiilaaWg
set_option linter.unusedSimpArgs false
set_option linter.unusedVariables false
namespace Go.Proofs.Ytjnllfebeeiilaa
open Go.RowKit

def negS (s : Int × Int) : (Int × Int) × Int := if okS s = true then ((-s.2, -s.1), 0) else E2
theorem negS_no {s : Int × Int} (h : okS s = false) : negS s = E2 := if_neg (by simp [h])
theorem negS_yes {s : Int × Int} (h : okS s = true) : negS s = ((-s.2, -s.1), 0) := if_pos h
def addS (a b : Int × Int) : (Int × Int) × Int := if okS a = true ∧ okS b = true then spanS (a.1 + b.1, a.2 + b.2) else E2
theorem addS_no {a b : Int × Int} (h : (okS a && okS b) = false) : addS a b = E2 := if_neg (by simpa using h)
theorem addS_yes {a b : Int × Int} (h : (okS a && okS b) = true) : addS a b = spanS (a.1 + b.1, a.2 + b.2) := if_pos (by simpa using h)
def subS (a b : Int × Int) : (Int × Int) × Int := if okS a = true ∧ okS b = true then spanS (a.1 - b.2, a.2 - b.1) else E2
theorem subS_no {a b : Int × Int} (h : (okS a && okS b) = false) : subS a b = E2 := if_neg (by simpa using h)
theorem subS_yes {a b : Int × Int} (h : (okS a && okS b) = true) : subS a b = spanS (a.1 - b.2, a.2 - b.1) := if_pos (by simpa using h)
def growS (s : Int × Int) (d : Int) : (Int × Int) × Int := if okS s = true ∧ 0 ≤ d ∧ isQ d = true then spanS (s.1 - d, s.2 + d) else E2
def clipS (s : Int × Int) (lo hi : Int) : (Int × Int) × Int := if okS s = true ∧ okS (lo, hi) = true then ((min (max s.1 lo) hi, min (max s.2 lo) hi), 0) else E2
theorem clipS_no {s : Int × Int} {lo hi : Int} (h : (okS s && okS (lo, hi)) = false) : clipS s lo hi = E2 := if_neg (by simpa using h)
theorem clipS_yes {s : Int × Int} {lo hi : Int} (h : (okS s && okS (lo, hi)) = true) : clipS s lo hi = ((min (max s.1 lo) hi, min (max s.2 lo) hi), 0) := if_pos (by simpa using h)
def widthS (s : Int × Int) : Int × Int := if okS s = true then fitS (s.2 - s.1) else (0, 2)
theorem widthS_no {s : Int × Int} (h : okS s = false) : widthS s = (0, 2) := if_neg (by simp [h])
theorem widthS_yes {s : Int × Int} (h : okS s = true) : widthS s = fitS (s.2 - s.1) := if_pos h
def middleS (s : Int × Int) : Int × Int := if okS s = true then ((s.1 + s.2) / 2, 0) else (0, 2)
theorem middleS_no {s : Int × Int} (h : okS s = false) : middleS s = (0, 2) := if_neg (by simp [h])
theorem middleS_yes {s : Int × Int} (h : okS s = true) : middleS s = ((s.1 + s.2) / 2, 0) := if_pos h
def checkS (s : Int × Int) : Int := if okS s = true then 0 else 2
def pointS (x : Int) : (Int × Int) × Int := if isQ x = true then ((x, x), 0) else E2

set_option maxHeartbeats 400000 in
theorem Neg_any (s : Int × Int) (w : World) : Calls Try.prog 35 #[.agg #[.int .i64 s.1, .int .i64 s.2]] w fun e w' => e = .returned (.tuple #[.agg #[.int .i64 (negS s).1.1, .int .i64 (negS s).1.2], .int .i64 (negS s).2]) ∧ Below w.heap.size w w' := by
  cases h : okS s
  · rw [negS_no h]
    obtain ⟨a1, a2⟩ := s
    go_enter Try.func35, Try.ntmps35
    go_wp2_with (go_at_call 74; refine (valid_oneN _ _ _ _ _ _ _ (by simp)).mono ?_; rintro e w1 ⟨rfl, hb⟩; obtain ⟨hcw1, hfw1⟩ := bcell hb; have hzw1 := Below.size hb; (try simp at hzw1); have hzw10 : w.heap.size < w1.heap.size := (by omega); have hzw11 : w.heap.size + 1 < w1.heap.size := (by omega))
    exact bodyPost_ret (v := .tuple #[.agg #[.int .i64 (0), .int .i64 (0)], .int .i64 2]) (by simp only [results, Try.results35]; go_simp) rfl ⟨rfl, (by repeat' (first | exact Below.refl _ _ | assumption | apply bDrewN | apply bDrew | apply bAlloc | (refine bSet ?_ ?_ _) | (refine bStep ?_ (by assumption)) | omega | (simp <;> omega)))⟩
  rw [negS_yes h]
  obtain ⟨h1, h2, h3⟩ := okS_bd h
  obtain ⟨a1, a2⟩ := s
  dsimp only at *
  go_enter Try.func35, Try.ntmps35
  go_wp2_with (go_at_call 74; refine (valid_oneN _ _ _ _ _ _ _ (by simp)).mono ?_; rintro e w1 ⟨rfl, hb⟩; obtain ⟨hcw1, hfw1⟩ := bcell hb; have hzw1 := Below.size hb; (try simp at hzw1); have hzw10 : w.heap.size < w1.heap.size := (by omega); have hzw11 : w.heap.size + 1 < w1.heap.size := (by omega))
  exact bodyPost_ret (v := .tuple #[.agg #[.int .i64 (-a2), .int .i64 (-a1)], .int .i64 0]) (by simp only [results, Try.results35]; go_simp) rfl ⟨rfl, (by repeat' (first | exact Below.refl _ _ | assumption | apply bDrewN | apply bDrew | apply bAlloc | (refine bSet ?_ ?_ _) | (refine bStep ?_ (by assumption)) | omega | (simp <;> omega)))⟩

set_option maxHeartbeats 400000 in
theorem Add_any (a b : Int × Int) (w : World) : Calls Try.prog 32 #[.agg #[.int .i64 a.1, .int .i64 a.2], .agg #[.int .i64 b.1, .int .i64 b.2]] w fun e w' => e = .returned (.tuple #[.agg #[.int .i64 (addS a b).1.1, .int .i64 (addS a b).1.2], .int .i64 (addS a b).2]) ∧ Below w.heap.size w w' := by
  cases h : (okS a && okS b)
  · rw [addS_no h]
    obtain ⟨a1, a2⟩ := a
    obtain ⟨b1, b2⟩ := b
    go_enter Try.func32, Try.ntmps32
    go_wp2_with (go_at_call 74; refine (valid_twoN _ _ _ _ _ _ _ _ _ (by simp)).mono ?_; rintro e w1 ⟨rfl, hb⟩; obtain ⟨hcw1, hfw1⟩ := bcell hb; have hzw1 := Below.size hb; (try simp at hzw1); have hzw10 : w.heap.size < w1.heap.size := (by omega); have hzw11 : w.heap.size + 1 < w1.heap.size := (by omega); have hzw12 : w.heap.size + 1 + 1 < w1.heap.size := (by omega))
    exact bodyPost_ret (v := .tuple #[.agg #[.int .i64 (0), .int .i64 (0)], .int .i64 2]) (by simp only [results, Try.results32]; go_simp) rfl ⟨rfl, (by repeat' (first | exact Below.refl _ _ | assumption | apply bDrewN | apply bDrew | apply bAlloc | (refine bSet ?_ ?_ _) | (refine bStep ?_ (by assumption)) | omega | (simp <;> omega)))⟩
  rw [addS_yes h]
  have h' : okS a = true ∧ okS b = true := by simpa using h
  obtain ⟨p1, p2, p3⟩ := okS_bd h'.1
  obtain ⟨q1, q2, q3⟩ := okS_bd h'.2
  obtain ⟨a1, a2⟩ := a
  obtain ⟨b1, b2⟩ := b
  clear h'
  dsimp only at *
  go_enter Try.func32, Try.ntmps32
  go_wp2_with (first | (go_at_call 74; refine (valid_twoN _ _ _ _ _ _ _ _ _ (by simp)).mono ?_; rintro e w1 ⟨rfl, hb⟩; obtain ⟨hcw1, hfw1⟩ := bcell hb; have hzw1 := Below.size hb; (try simp at hzw1); have hzw10 : w.heap.size < w1.heap.size := (by omega); have hzw11 : w.heap.size + 1 < w1.heap.size := (by omega); have hzw12 : w.heap.size + 1 + 1 < w1.heap.size := (by omega)) | (go_at_call 75; refine (around_oneN _ _ _ _ _ _ (by simp)).mono ?_; rintro e w2 ⟨rfl, hb2⟩; obtain ⟨hcw2, hfw2⟩ := bcell hb2; have hzw2 := Below.size hb2; (try simp at hzw2); have hzw20 : w.heap.size < w2.heap.size := (by omega); have hzw21 : w.heap.size + 1 < w2.heap.size := (by omega); have hzw22 : w.heap.size + 1 + 1 < w2.heap.size := (by omega)))
  generalize spanS (a1 + b1, a2 + b2) = S
  exact bodyPost_ret (v := .tuple #[.agg #[.int .i64 (S.1.1), .int .i64 (S.1.2)], .int .i64 S.2]) (by simp only [results, Try.results32]; go_simp) rfl ⟨rfl, (by repeat' (first | exact Below.refl _ _ | assumption | apply bDrewN | apply bDrew | apply bAlloc | (refine bSet ?_ ?_ _) | (refine bStep ?_ (by assumption)) | omega | (simp <;> omega)))⟩

set_option maxHeartbeats 400000 in
theorem Sub_any (a b : Int × Int) (w : World) : Calls Try.prog 33 #[.agg #[.int .i64 a.1, .int .i64 a.2], .agg #[.int .i64 b.1, .int .i64 b.2]] w fun e w' => e = .returned (.tuple #[.agg #[.int .i64 (subS a b).1.1, .int .i64 (subS a b).1.2], .int .i64 (subS a b).2]) ∧ Below w.heap.size w w' := by
  cases h : (okS a && okS b)
  · rw [subS_no h]
    obtain ⟨a1, a2⟩ := a
    obtain ⟨b1, b2⟩ := b
    go_enter Try.func33, Try.ntmps33
    go_wp2_with (go_at_call 74; refine (valid_twoN _ _ _ _ _ _ _ _ _ (by simp)).mono ?_; rintro e w1 ⟨rfl, hb⟩; obtain ⟨hcw1, hfw1⟩ := bcell hb; have hzw1 := Below.size hb; (try simp at hzw1); have hzw10 : w.heap.size < w1.heap.size := (by omega); have hzw11 : w.heap.size + 1 < w1.heap.size := (by omega); have hzw12 : w.heap.size + 1 + 1 < w1.heap.size := (by omega))
    exact bodyPost_ret (v := .tuple #[.agg #[.int .i64 (0), .int .i64 (0)], .int .i64 2]) (by simp only [results, Try.results33]; go_simp) rfl ⟨rfl, (by repeat' (first | exact Below.refl _ _ | assumption | apply bDrewN | apply bDrew | apply bAlloc | (refine bSet ?_ ?_ _) | (refine bStep ?_ (by assumption)) | omega | (simp <;> omega)))⟩
  rw [subS_yes h]
  have h' : okS a = true ∧ okS b = true := by simpa using h
  obtain ⟨p1, p2, p3⟩ := okS_bd h'.1
  obtain ⟨q1, q2, q3⟩ := okS_bd h'.2
  obtain ⟨a1, a2⟩ := a
  obtain ⟨b1, b2⟩ := b
  clear h'
  dsimp only at *
  go_enter Try.func33, Try.ntmps33
  go_wp2_with (first | (go_at_call 74; refine (valid_twoN _ _ _ _ _ _ _ _ _ (by simp)).mono ?_; rintro e w1 ⟨rfl, hb⟩; obtain ⟨hcw1, hfw1⟩ := bcell hb; have hzw1 := Below.size hb; (try simp at hzw1); have hzw10 : w.heap.size < w1.heap.size := (by omega); have hzw11 : w.heap.size + 1 < w1.heap.size := (by omega); have hzw12 : w.heap.size + 1 + 1 < w1.heap.size := (by omega)) | (go_at_call 75; refine (around_oneN _ _ _ _ _ _ (by simp)).mono ?_; rintro e w2 ⟨rfl, hb2⟩; obtain ⟨hcw2, hfw2⟩ := bcell hb2; have hzw2 := Below.size hb2; (try simp at hzw2); have hzw20 : w.heap.size < w2.heap.size := (by omega); have hzw21 : w.heap.size + 1 < w2.heap.size := (by omega); have hzw22 : w.heap.size + 1 + 1 < w2.heap.size := (by omega)))
  generalize spanS (a1 - b2, a2 - b1) = S
  exact bodyPost_ret (v := .tuple #[.agg #[.int .i64 (S.1.1), .int .i64 (S.1.2)], .int .i64 S.2]) (by simp only [results, Try.results33]; go_simp) rfl ⟨rfl, (by repeat' (first | exact Below.refl _ _ | assumption | apply bDrewN | apply bDrew | apply bAlloc | (refine bSet ?_ ?_ _) | (refine bStep ?_ (by assumption)) | omega | (simp <;> omega)))⟩

theorem growS_n1 {s : Int × Int} {d : Int} (h : okS s = false) : growS s d = E2 := by simp [growS, h]
theorem growS_n2 {s : Int × Int} {d : Int} (h : d < 0) : growS s d = E2 := by unfold growS; rw [if_neg (by omega)]
theorem growS_n3 {s : Int × Int} {d : Int} (h : isQ d = false) : growS s d = E2 := by simp [growS, h]
theorem growS_yes {s : Int × Int} {d : Int} (h : okS s = true) (h2 : 0 ≤ d) (h3 : isQ d = true) : growS s d = spanS (s.1 - d, s.2 + d) := if_pos ⟨h, h2, h3⟩

set_option maxHeartbeats 400000 in
theorem Grow_any (s : Int × Int) (d : Int) (w : World) : Calls Try.prog 93 #[.agg #[.int .i64 s.1, .int .i64 s.2], .int .i64 d] w fun e w' => e = .returned (.tuple #[.agg #[.int .i64 (growS s d).1.1, .int .i64 (growS s d).1.2], .int .i64 (growS s d).2]) ∧ Below w.heap.size w w' := by
  cases h : okS s
  · rw [growS_n1 h]
    obtain ⟨a1, a2⟩ := s
    go_enter Try.func93, Try.ntmps93
    go_wp2_with (first | (go_at_call 74; refine (valid_oneN _ _ _ _ _ _ _ (by simp)).mono ?_; rintro e w1 ⟨rfl, hb⟩; obtain ⟨hcw1, hfw1⟩ := bcell hb; have hzw1 := Below.size hb; (try simp at hzw1); have hzw10 : w.heap.size < w1.heap.size := (by omega); have hzw11 : w.heap.size + 1 < w1.heap.size := (by omega)) | (go_at_call 78; refine (is_any _ _).mono ?_; rintro e w' ⟨rfl, rfl⟩))
    exact bodyPost_ret (v := .tuple #[.agg #[.int .i64 (0), .int .i64 (0)], .int .i64 2]) (by simp only [results, Try.results93]; go_simp) rfl ⟨rfl, (by repeat' (first | exact Below.refl _ _ | assumption | apply bDrewN | apply bDrew | apply bAlloc | (refine bSet ?_ ?_ _) | (refine bStep ?_ (by assumption)) | omega | (simp <;> omega)))⟩
  by_cases hd : d < 0
  · rw [growS_n2 hd]
    obtain ⟨a1, a2⟩ := s
    go_enter Try.func93, Try.ntmps93
    go_wp2_with (first | (go_at_call 74; refine (valid_oneN _ _ _ _ _ _ _ (by simp)).mono ?_; rintro e w1 ⟨rfl, hb⟩; obtain ⟨hcw1, hfw1⟩ := bcell hb; have hzw1 := Below.size hb; (try simp at hzw1); have hzw10 : w.heap.size < w1.heap.size := (by omega); have hzw11 : w.heap.size + 1 < w1.heap.size := (by omega)) | (go_at_call 78; refine (is_any _ _).mono ?_; rintro e w' ⟨rfl, rfl⟩))
    exact bodyPost_ret (v := .tuple #[.agg #[.int .i64 (0), .int .i64 (0)], .int .i64 2]) (by simp only [results, Try.results93]; go_simp) rfl ⟨rfl, (by repeat' (first | exact Below.refl _ _ | assumption | apply bDrewN | apply bDrew | apply bAlloc | (refine bSet ?_ ?_ _) | (refine bStep ?_ (by assumption)) | omega | (simp <;> omega)))⟩
  cases hq : isQ d
  · rw [growS_n3 hq]
    obtain ⟨a1, a2⟩ := s
    go_enter Try.func93, Try.ntmps93
    go_wp2_with (first | (go_at_call 74; refine (valid_oneN _ _ _ _ _ _ _ (by simp)).mono ?_; rintro e w1 ⟨rfl, hb⟩; obtain ⟨hcw1, hfw1⟩ := bcell hb; have hzw1 := Below.size hb; (try simp at hzw1); have hzw10 : w.heap.size < w1.heap.size := (by omega); have hzw11 : w.heap.size + 1 < w1.heap.size := (by omega)) | (go_at_call 78; refine (is_any _ _).mono ?_; rintro e w' ⟨rfl, rfl⟩))
    exact bodyPost_ret (v := .tuple #[.agg #[.int .i64 (0), .int .i64 (0)], .int .i64 2]) (by simp only [results, Try.results93]; go_simp) rfl ⟨rfl, (by repeat' (first | exact Below.refl _ _ | assumption | apply bDrewN | apply bDrew | apply bAlloc | (refine bSet ?_ ?_ _) | (refine bStep ?_ (by assumption)) | omega | (simp <;> omega)))⟩
  rw [growS_yes h (by omega) hq]
  obtain ⟨h1, h2, h3⟩ := okS_bd h
  obtain ⟨q1, q2⟩ := (isQ_iff _).1 hq
  obtain ⟨a1, a2⟩ := s
  dsimp only at *
  go_enter Try.func93, Try.ntmps93
  go_wp2_with (first | (go_at_call 74; refine (valid_oneN _ _ _ _ _ _ _ (by simp)).mono ?_; rintro e w1 ⟨rfl, hb⟩; obtain ⟨hcw1, hfw1⟩ := bcell hb; have hzw1 := Below.size hb; (try simp at hzw1); have hzw10 : w.heap.size < w1.heap.size := (by omega); have hzw11 : w.heap.size + 1 < w1.heap.size := (by omega)) | (go_at_call 78; refine (is_any _ _).mono ?_; rintro e w' ⟨rfl, rfl⟩) | (go_at_call 75; refine (around_oneN _ _ _ _ _ _ (by simp)).mono ?_; rintro e w2 ⟨rfl, hb2⟩; obtain ⟨hcw2, hfw2⟩ := bcell hb2; have hzw2 := Below.size hb2; (try simp at hzw2); have hzw20 : w.heap.size < w2.heap.size := (by omega); have hzw21 : w.heap.size + 1 < w2.heap.size := (by omega)))
  generalize spanS (a1 - d, a2 + d) = S
  exact bodyPost_ret (v := .tuple #[.agg #[.int .i64 (S.1.1), .int .i64 (S.1.2)], .int .i64 S.2]) (by simp only [results, Try.results93]; go_simp) rfl ⟨rfl, (by repeat' (first | exact Below.refl _ _ | assumption | apply bDrewN | apply bDrew | apply bAlloc | (refine bSet ?_ ?_ _) | (refine bStep ?_ (by assumption)) | omega | (simp <;> omega)))⟩

set_option maxHeartbeats 400000 in
theorem Clip_any (s : Int × Int) (lo hi : Int) (w : World) : Calls Try.prog 92 #[.agg #[.int .i64 s.1, .int .i64 s.2], .int .i64 lo, .int .i64 hi] w fun e w' => e = .returned (.tuple #[.agg #[.int .i64 (clipS s lo hi).1.1, .int .i64 (clipS s lo hi).1.2], .int .i64 (clipS s lo hi).2]) ∧ Below w.heap.size w w' := by
  cases h : (okS s && okS (lo, hi))
  · rw [clipS_no h]
    obtain ⟨a1, a2⟩ := s
    go_enter Try.func92, Try.ntmps92
    go_wp2_with (go_at_call 74; refine (valid_twoN _ _ _ _ _ _ _ _ _ (by simp)).mono ?_; rintro e w1 ⟨rfl, hb⟩; obtain ⟨hcw1, hfw1⟩ := bcell hb; have hzw1 := Below.size hb; (try simp at hzw1); have hzw10 : w.heap.size < w1.heap.size := (by omega); have hzw11 : w.heap.size + 1 < w1.heap.size := (by omega))
    exact bodyPost_ret (v := .tuple #[.agg #[.int .i64 (0), .int .i64 (0)], .int .i64 2]) (by simp only [results, Try.results92]; go_simp) rfl ⟨rfl, (by repeat' (first | exact Below.refl _ _ | assumption | apply bDrewN | apply bDrew | apply bAlloc | (refine bSet ?_ ?_ _) | (refine bStep ?_ (by assumption)) | omega | (simp <;> omega)))⟩
  rw [clipS_yes h]
  obtain ⟨a1, a2⟩ := s
  obtain ⟨M, hM⟩ : ∃ M, max a1 lo = M := ⟨_, rfl⟩
  obtain ⟨N, hN⟩ : ∃ N, max a2 lo = N := ⟨_, rfl⟩
  dsimp only
  rw [hM, hN]
  have e1 : (if a1 < lo then lo else a1) = M := by rw [← hM, max_if]
  have e2 : (if a2 < lo then lo else a2) = N := by rw [← hN, max_if]
  obtain ⟨m, hm⟩ : ∃ m, min M hi = m := ⟨_, rfl⟩
  obtain ⟨n, hn⟩ : ∃ n, min N hi = n := ⟨_, rfl⟩
  rw [hm, hn]
  have e3 : (if hi < M then hi else M) = m := by rw [← hm, min_if]
  have e4 : (if hi < N then hi else N) = n := by rw [← hn, min_if]
  clear hM hN hm hn
  go_enter Try.func92, Try.ntmps92
  go_wp2_with (go_at_call 74; refine (valid_twoN _ _ _ _ _ _ _ _ _ (by simp)).mono ?_; rintro e w1 ⟨rfl, hb⟩; obtain ⟨hcw1, hfw1⟩ := bcell hb; have hzw1 := Below.size hb; (try simp at hzw1); have hzw10 : w.heap.size < w1.heap.size := (by omega); have hzw11 : w.heap.size + 1 < w1.heap.size := (by omega))
  exact bodyPost_ret (v := .tuple #[.agg #[.int .i64 (m), .int .i64 (n)], .int .i64 0]) (by simp only [results, Try.results92]; go_simp) rfl ⟨rfl, (by repeat' (first | exact Below.refl _ _ | assumption | apply bDrewN | apply bDrew | apply bAlloc | (refine bSet ?_ ?_ _) | (refine bStep ?_ (by assumption)) | omega | (simp <;> omega)))⟩

set_option maxHeartbeats 400000 in
theorem Width_any (s : Int × Int) (w : World) : Calls Try.prog 110 #[.agg #[.int .i64 s.1, .int .i64 s.2]] w fun e w' => e = .returned (.tuple #[.int .i64 (widthS s).1, .int .i64 (widthS s).2]) ∧ Below w.heap.size w w' := by
  cases h : okS s
  · rw [widthS_no h]
    obtain ⟨a1, a2⟩ := s
    go_enter Try.func110, Try.ntmps110
    go_wp2_with (go_at_call 74; refine (valid_oneN _ _ _ _ _ _ _ (by simp)).mono ?_; rintro e w1 ⟨rfl, hb⟩; obtain ⟨hcw1, hfw1⟩ := bcell hb; have hzw1 := Below.size hb; (try simp at hzw1); have hzw10 : w.heap.size < w1.heap.size := (by omega))
    go_ret2
    exact ⟨rfl, (by repeat' (first | exact Below.refl _ _ | assumption | apply bDrewN | apply bDrew | apply bAlloc | (refine bSet ?_ ?_ _) | (refine bStep ?_ (by assumption)) | omega | (simp <;> omega)))⟩
  rw [widthS_yes h]
  obtain ⟨h1, h2, h3⟩ := okS_bd h
  obtain ⟨a1, a2⟩ := s
  dsimp only at *
  go_enter Try.func110, Try.ntmps110
  go_wp2_with (first | (go_at_call 74; refine (valid_oneN _ _ _ _ _ _ _ (by simp)).mono ?_; rintro e w1 ⟨rfl, hb⟩; obtain ⟨hcw1, hfw1⟩ := bcell hb; have hzw1 := Below.size hb; (try simp at hzw1); have hzw10 : w.heap.size < w1.heap.size := (by omega)) | (go_at_call 79; refine (fit_any _ _).mono ?_; rintro e w' ⟨rfl, rfl⟩))
  go_ret2
  exact ⟨rfl, (by repeat' (first | exact Below.refl _ _ | assumption | apply bDrewN | apply bDrew | apply bAlloc | (refine bSet ?_ ?_ _) | (refine bStep ?_ (by assumption)) | omega | (simp <;> omega)))⟩

set_option maxHeartbeats 400000 in
theorem Middle_any (s : Int × Int) (w : World) : Calls Try.prog 112 #[.agg #[.int .i64 s.1, .int .i64 s.2]] w fun e w' => e = .returned (.tuple #[.int .i64 (middleS s).1, .int .i64 (middleS s).2]) ∧ Below w.heap.size w w' := by
  cases h : okS s
  · rw [middleS_no h]
    obtain ⟨a1, a2⟩ := s
    go_enter Try.func112, Try.ntmps112
    go_wp2_with (go_at_call 74; refine (valid_oneN _ _ _ _ _ _ _ (by simp)).mono ?_; rintro e w1 ⟨rfl, hb⟩; obtain ⟨hcw1, hfw1⟩ := bcell hb; have hzw1 := Below.size hb; (try simp at hzw1); have hzw10 : w.heap.size < w1.heap.size := (by omega))
    go_ret2
    exact ⟨rfl, (by repeat' (first | exact Below.refl _ _ | assumption | apply bDrewN | apply bDrew | apply bAlloc | (refine bSet ?_ ?_ _) | (refine bStep ?_ (by assumption)) | omega | (simp <;> omega)))⟩
  rw [middleS_yes h]
  obtain ⟨h1, h2, h3⟩ := okS_bd h
  obtain ⟨a1, a2⟩ := s
  dsimp only at *
  go_enter Try.func112, Try.ntmps112
  go_wp2_with (go_at_call 74; refine (valid_oneN _ _ _ _ _ _ _ (by simp)).mono ?_; rintro e w1 ⟨rfl, hb⟩; obtain ⟨hcw1, hfw1⟩ := bcell hb; have hzw1 := Below.size hb; (try simp at hzw1); have hzw10 : w.heap.size < w1.heap.size := (by omega))
  go_ret2
  exact ⟨by simp, (by repeat' (first | exact Below.refl _ _ | assumption | apply bDrewN | apply bDrew | apply bAlloc | (refine bSet ?_ ?_ _) | (refine bStep ?_ (by assumption)) | omega | (simp <;> omega)))⟩

theorem Check_any (s : Int × Int) (w : World) : Calls Try.prog 103 #[.agg #[.int .i64 s.1, .int .i64 s.2]] w fun e w' => e = .returned (.int .i64 (checkS s)) ∧ Below w.heap.size w w' := by
  unfold checkS
  obtain ⟨a1, a2⟩ := s
  cases h : okS (a1, a2)
  all_goals
    go_enter Try.func103, Try.ntmps103
    go_wp2_with (go_at_call 74; refine (valid_oneN _ _ _ _ _ _ _ (by simp)).mono ?_; rintro e w1 ⟨rfl, hb⟩; obtain ⟨hcw1, hfw1⟩ := bcell hb; have hzw1 := Below.size hb; (try simp at hzw1); have hzw10 : w.heap.size < w1.heap.size := (by omega))
    go_ret
    exact ⟨rfl, (by repeat' (first | exact Below.refl _ _ | assumption | apply bDrewN | apply bDrew | apply bAlloc | (refine bSet ?_ ?_ _) | (refine bStep ?_ (by assumption)) | omega | (simp <;> omega)))⟩

theorem Point_any (x : Int) (w : World) : Calls Try.prog 30 #[.int .i64 x] w fun e w' => e = .returned (.tuple #[.agg #[.int .i64 (pointS x).1.1, .int .i64 (pointS x).1.2], .int .i64 (pointS x).2]) ∧ Below w.heap.size w w' := by
  unfold pointS E2
  cases h : isQ x
  · go_enter Try.func30, Try.ntmps30
    go_wp2_with (go_at_call 78; refine (is_any _ _).mono ?_; rintro e w' ⟨rfl, rfl⟩)
    exact bodyPost_ret (v := .tuple #[.agg #[.int .i64 (0), .int .i64 (0)], .int .i64 2]) (by simp only [results, Try.results30]; go_simp) rfl ⟨rfl, (by repeat' (first | exact Below.refl _ _ | assumption | apply bDrewN | apply bDrew | apply bAlloc | (refine bSet ?_ ?_ _) | (refine bStep ?_ (by assumption)) | omega | (simp <;> omega)))⟩
  · go_enter Try.func30, Try.ntmps30
    go_wp2_with (go_at_call 78; refine (is_any _ _).mono ?_; rintro e w' ⟨rfl, rfl⟩)
    exact bodyPost_ret (v := .tuple #[.agg #[.int .i64 (x), .int .i64 (x)], .int .i64 0]) (by simp only [results, Try.results30]; go_simp) rfl ⟨rfl, (by repeat' (first | exact Below.refl _ _ | assumption | apply bDrewN | apply bDrew | apply bAlloc | (refine bSet ?_ ?_ _) | (refine bStep ?_ (by assumption)) | omega | (simp <;> omega)))⟩


end Go.Proofs.Ytjnllfebeeiilaa
