/-
  The walks of Neg, Add, Sub, Grow, Clip, Width, Middle, Check, Point.
-/
import Derived.Test.YtkldlmbccdfjdaaWg
set_option linter.unusedSimpArgs false
set_option linter.unusedVariables false
namespace Go.Proofs.Ytkldlmbccdfjdaa
open Go.RowKit

def negS (s : Int × Int) : (Int × Int) × Int := if okS s = true then ((-s.2, -s.1), 0) else E2
theorem negS_no {s : Int × Int} (h : okS s = false) : negS s = E2 := if_neg (by simp [h])
theorem negS_yes {s : Int × Int} (h : okS s = true) : negS s = ((-s.2, -s.1), 0) := if_pos h
def addS (a b : Int × Int) : (Int × Int) × Int := if okS a = true ∧ okS b = true then spanS (a.1 + b.1, a.2 + b.2) else E2
theorem addS_no {a b : Int × Int} (h : (okS a && okS b) = false) : addS a b = E2 := if_neg (by simpa using h)
theorem addS_yes {a b : Int × Int} (h : (okS a && okS b) = true) : addS a b = spanS (a.1 + b.1, a.2 + b.2) := if_pos (by simpa using h)
def subS (a b : Int × Int) : (Int × Int) × Int := if okS a = true ∧ okS b = true then spanS (a.1 - b.2, a.2 - b.1) else E2
theorem subS_no {a b : Int × Int} (h : (okS a && okS b) = false) : subS a b = E2 := if_neg (by simpa using h)
theorem subS_yes {a b : Int × Int} (h : (okS a && okS b) = true) : subS a b = spanS (a.1 - b.2, a.2 - b.1) := if_pos (by simpa using h)
def growS (s : Int × Int) (d : Int) : (Int × Int) × Int := if okS s = true ∧ 0 ≤ d ∧ isQ d = true then spanS (s.1 - d, s.2 + d) else E2
def clipS (s : Int × Int) (lo hi : Int) : (Int × Int) × Int := if okS s = true ∧ okS (lo, hi) = true then ((min (max s.1 lo) hi, min (max s.2 lo) hi), 0) else E2
theorem clipS_no {s : Int × Int} {lo hi : Int} (h : (okS s && okS (lo, hi)) = false) : clipS s lo hi = E2 := if_neg (by simpa using h)
theorem clipS_yes {s : Int × Int} {lo hi : Int} (h : (okS s && okS (lo, hi)) = true) : clipS s lo hi = ((min (max s.1 lo) hi, min (max s.2 lo) hi), 0) := if_pos (by simpa using h)
def widthS (s : Int × Int) : Int × Int := if okS s = true then fitS (s.2 - s.1) else (0, 2)
theorem widthS_no {s : Int × Int} (h : okS s = false) : widthS s = (0, 2) := if_neg (by simp [h])
theorem widthS_yes {s : Int × Int} (h : okS s = true) : widthS s = fitS (s.2 - s.1) := if_pos h
def middleS (s : Int × Int) : Int × Int := if okS s = true then ((s.1 + s.2) / 2, 0) else (0, 2)
theorem middleS_no {s : Int × Int} (h : okS s = false) : middleS s = (0, 2) := if_neg (by simp [h])
theorem middleS_yes {s : Int × Int} (h : okS s = true) : middleS s = ((s.1 + s.2) / 2, 0) := if_pos h
def checkS (s : Int × Int) : Int := if okS s = true then 0 else 2
def pointS (x : Int) : (Int × Int) × Int := if isQ x = true then ((x, x), 0) else E2

theorem growS_n1 {s : Int × Int} {d : Int} (h : okS s = false) : growS s d = E2 := by simp [growS, h]
theorem growS_n2 {s : Int × Int} {d : Int} (h : d < 0) : growS s d = E2 := by unfold growS; rw [if_neg (by omega)]
theorem growS_n3 {s : Int × Int} {d : Int} (h : isQ d = false) : growS s d = E2 := by simp [growS, h]
theorem growS_yes {s : Int × Int} {d : Int} (h : okS s = true) (h2 : 0 ≤ d) (h3 : isQ d = true) : growS s d = spanS (s.1 - d, s.2 + d) := if_pos ⟨h, h2, h3⟩

set_option maxHeartbeats 400000 in
theorem Middle_any (s : Int × Int) (w : World) : Calls Try.prog 72 #[.agg #[.int .i64 s.1, .int .i64 s.2]] w fun e w' => e = .returned (.tuple #[.int .i64 (middleS s).1, .int .i64 (middleS s).2]) ∧ Below w.heap.size w w' := by
  cases h : okS s
  · rw [middleS_no h]
    obtain ⟨a1, a2⟩ := s
    go_enter Try.func72, Try.ntmps72
    go_wp2_with (go_at_call 54; refine (valid_oneN _ _ _ _ _ _ _ (by simp)).mono ?_; rintro e w1 ⟨rfl, hb⟩; obtain ⟨hcw1, hfw1⟩ := bcell hb; have hzw1 := Below.size hb; (try simp at hzw1); have hzw10 : w.heap.size < w1.heap.size := (by omega))
    go_ret2
    exact ⟨rfl, (by repeat' (first | exact Below.refl _ _ | assumption | apply bDrewN | apply bDrew | apply bAlloc | (refine bSet ?_ ?_ _) | (refine bStep ?_ (by assumption)) | omega | (simp <;> omega)))⟩
  rw [middleS_yes h]
  obtain ⟨h1, h2, h3⟩ := okS_bd h
  obtain ⟨a1, a2⟩ := s
  dsimp only at *
  go_enter Try.func72, Try.ntmps72
  go_wp2_with (go_at_call 54; refine (valid_oneN _ _ _ _ _ _ _ (by simp)).mono ?_; rintro e w1 ⟨rfl, hb⟩; obtain ⟨hcw1, hfw1⟩ := bcell hb; have hzw1 := Below.size hb; (try simp at hzw1); have hzw10 : w.heap.size < w1.heap.size := (by omega))
  go_ret2
  exact ⟨by simp, (by repeat' (first | exact Below.refl _ _ | assumption | apply bDrewN | apply bDrew | apply bAlloc | (refine bSet ?_ ?_ _) | (refine bStep ?_ (by assumption)) | omega | (simp <;> omega)))⟩

end Go.Proofs.Ytkldlmbccdfjdaa
