/-
  The walks of Meet, Hull, Has, Inside.
-/
import Derived.Test.YtkldlmbccdfjdaaWf
set_option linter.unusedSimpArgs false
set_option linter.unusedVariables false
namespace Go.Proofs.Ytkldlmbccdfjdaa
open Go.RowKit

def E2 : (Int × Int) × Int := ((0, 0), 2)
def meetS (a b : Int × Int) : (Int × Int) × Int :=
  if okS a = true ∧ okS b = true then (if min a.2 b.2 < max a.1 b.1 then ((0, 0), 5) else ((max a.1 b.1, min a.2 b.2), 0)) else E2
theorem meetS_no {a b : Int × Int} (h : (okS a && okS b) = false) : meetS a b = E2 := if_neg (by simpa using h)
theorem meetS_none {a b : Int × Int} (h : (okS a && okS b) = true) (h2 : min a.2 b.2 < max a.1 b.1) : meetS a b = ((0, 0), 5) := by
  unfold meetS; rw [if_pos (by simpa using h), if_pos h2]
theorem meetS_yes {a b : Int × Int} (h : (okS a && okS b) = true) (h2 : ¬ min a.2 b.2 < max a.1 b.1) : meetS a b = ((max a.1 b.1, min a.2 b.2), 0) := by
  unfold meetS; rw [if_pos (by simpa using h), if_neg h2]

set_option maxHeartbeats 400000 in
theorem Meet_any (a b : Int × Int) (w : World) :
    Calls Try.prog 67 #[.agg #[.int .i64 a.1, .int .i64 a.2], .agg #[.int .i64 b.1, .int .i64 b.2]] w fun e w' => e = .returned (.tuple #[.agg #[.int .i64 (meetS a b).1.1, .int .i64 (meetS a b).1.2], .int .i64 (meetS a b).2]) ∧ Below w.heap.size w w' := by
  obtain ⟨a1, a2⟩ := a
  obtain ⟨b1, b2⟩ := b
  cases h : (okS (a1, a2) && okS (b1, b2))
  · rw [meetS_no h]
    go_enter Try.func67, Try.ntmps67
    go_wp2_with (go_at_call 54; refine (valid_twoN _ _ _ _ _ _ _ _ _ (by simp)).mono ?_; rintro e w1 ⟨rfl, hb⟩; obtain ⟨hcw1, hfw1⟩ := bcell hb; have hzw1 := Below.size hb; (try simp at hzw1); have hzw10 : w.heap.size < w1.heap.size := (by omega); have hzw11 : w.heap.size + 1 < w1.heap.size := (by omega); have hzw12 : w.heap.size + 1 + 1 < w1.heap.size := (by omega))
    exact bodyPost_ret (v := .tuple #[.agg #[.int .i64 0, .int .i64 0], .int .i64 2]) (by simp [results, Try.results67, go_sem, hcw1]) rfl ⟨rfl, (by repeat' (first | exact Below.refl _ _ | assumption | apply bDrewN | apply bDrew | apply bAlloc | (refine bSet ?_ ?_ _) | (refine bStep ?_ (by assumption)) | omega | (simp <;> omega)))⟩
  obtain ⟨M, hM⟩ : ∃ M, max a1 b1 = M := ⟨_, rfl⟩
  obtain ⟨m, hm⟩ : ∃ m, min a2 b2 = m := ⟨_, rfl⟩
  have e1 : (if a1 < b1 then b1 else a1) = M := by rw [← hM, max_if]
  have e2 : (if b2 < a2 then b2 else a2) = m := by rw [← hm, min_if]
  by_cases h2 : m < M
  · rw [meetS_none h (by simpa [hM, hm] using h2)]
    clear hM hm
    go_enter Try.func67, Try.ntmps67
    go_wp2_with (go_at_call 54; refine (valid_twoN _ _ _ _ _ _ _ _ _ (by simp)).mono ?_; rintro e w1 ⟨rfl, hb⟩; obtain ⟨hcw1, hfw1⟩ := bcell hb; have hzw1 := Below.size hb; (try simp at hzw1); have hzw10 : w.heap.size < w1.heap.size := (by omega); have hzw11 : w.heap.size + 1 < w1.heap.size := (by omega); have hzw12 : w.heap.size + 1 + 1 < w1.heap.size := (by omega))
    exact bodyPost_ret (v := .tuple #[.agg #[.int .i64 0, .int .i64 0], .int .i64 5]) (by simp [results, Try.results67, go_sem, hcw1, hzw12]) rfl ⟨rfl, (by repeat' (first | exact Below.refl _ _ | assumption | apply bDrewN | apply bDrew | apply bAlloc | (refine bSet ?_ ?_ _) | (refine bStep ?_ (by assumption)) | omega | (simp <;> omega)))⟩
  · rw [meetS_yes h (by simpa [hM, hm] using h2)]
    rw [hM, hm]
    clear hM hm
    go_enter Try.func67, Try.ntmps67
    go_wp2_with (go_at_call 54; refine (valid_twoN _ _ _ _ _ _ _ _ _ (by simp)).mono ?_; rintro e w1 ⟨rfl, hb⟩; obtain ⟨hcw1, hfw1⟩ := bcell hb; have hzw1 := Below.size hb; (try simp at hzw1); have hzw10 : w.heap.size < w1.heap.size := (by omega); have hzw11 : w.heap.size + 1 < w1.heap.size := (by omega); have hzw12 : w.heap.size + 1 + 1 < w1.heap.size := (by omega))
    exact bodyPost_ret (v := .tuple #[.agg #[.int .i64 M, .int .i64 m], .int .i64 0]) (by simp [results, Try.results67, go_sem, hcw1, hzw12]) rfl ⟨rfl, (by repeat' (first | exact Below.refl _ _ | assumption | apply bDrewN | apply bDrew | apply bAlloc | (refine bSet ?_ ?_ _) | (refine bStep ?_ (by assumption)) | omega | (simp <;> omega)))⟩

def hullS (a b : Int × Int) : (Int × Int) × Int := if okS a = true ∧ okS b = true then ((min a.1 b.1, max a.2 b.2), 0) else E2
theorem hullS_no {a b : Int × Int} (h : (okS a && okS b) = false) : hullS a b = E2 := if_neg (by simpa using h)
theorem hullS_yes {a b : Int × Int} (h : (okS a && okS b) = true) : hullS a b = ((min a.1 b.1, max a.2 b.2), 0) := if_pos (by simpa using h)
theorem hull_span {a b : Int × Int} (h : (okS a && okS b) = true) : spanS (foldS a [b]) = hullS a b := by
  rw [hullS_yes h]
  simp only [Bool.and_eq_true] at h
  have h1 := okS_bd h.1
  have h2 := okS_bd h.2
  refine spanS_yes ((isQ_iff _).2 ?_) ((isQ_iff _).2 ?_) <;> simp only [foldS, List.foldl] <;> omega

set_option maxHeartbeats 400000 in
theorem Hull_any (a b : Int × Int) (w : World) :
    Calls Try.prog 70 #[.agg #[.int .i64 a.1, .int .i64 a.2], .agg #[.int .i64 b.1, .int .i64 b.2]] w fun e w' => e = .returned (.tuple #[.agg #[.int .i64 (hullS a b).1.1, .int .i64 (hullS a b).1.2], .int .i64 (hullS a b).2]) ∧ Below w.heap.size w w' := by
  cases h : (okS a && okS b)
  · rw [hullS_no h]
    obtain ⟨a1, a2⟩ := a
    obtain ⟨b1, b2⟩ := b
    go_enter Try.func70, Try.ntmps70
    go_wp2_with (go_at_call 54; refine (valid_twoN _ _ _ _ _ _ _ _ _ (by simp)).mono ?_; rintro e w1 ⟨rfl, hb⟩; obtain ⟨hcw1, hfw1⟩ := bcell hb; have hzw1 := Below.size hb; (try simp at hzw1); have hzw10 : w.heap.size < w1.heap.size := (by omega); have hzw11 : w.heap.size + 1 < w1.heap.size := (by omega); have hzw12 : w.heap.size + 1 + 1 < w1.heap.size := (by omega))
    exact bodyPost_ret (v := .tuple #[.agg #[.int .i64 0, .int .i64 0], .int .i64 2]) (by simp [results, Try.results70, go_sem, hcw1]) rfl ⟨rfl, (by repeat' (first | exact Below.refl _ _ | assumption | apply bDrewN | apply bDrew | apply bAlloc | (refine bSet ?_ ?_ _) | (refine bStep ?_ (by assumption)) | omega | (simp <;> omega)))⟩
  rw [← hull_span h]
  obtain ⟨a1, a2⟩ := a
  obtain ⟨b1, b2⟩ := b
  go_enter Try.func70, Try.ntmps70
  go_wp2_with (first | (go_at_call 54; refine (valid_twoN _ _ _ _ _ _ _ _ _ (by simp)).mono ?_; rintro e w1 ⟨rfl, hb⟩; obtain ⟨hcw1, hfw1⟩ := bcell hb; have hzw1 := Below.size hb; (try simp at hzw1); have hzw10 : w.heap.size < w1.heap.size := (by omega); have hzw11 : w.heap.size + 1 < w1.heap.size := (by omega); have hzw12 : w.heap.size + 1 + 1 < w1.heap.size := (by omega)) | (go_at_call 76; refine (around_twoN _ _ _ _ _ _ _ _ (by simp)).mono ?_; rintro e w2 ⟨rfl, hb2⟩; obtain ⟨hcw2, hfw2⟩ := bcell hb2; have hzw2 := Below.size hb2; (try simp at hzw2); have hzw20 : w.heap.size < w2.heap.size := (by omega); have hzw21 : w.heap.size + 1 < w2.heap.size := (by omega); have hzw22 : w.heap.size + 1 + 1 < w2.heap.size := (by omega)))
  generalize spanS (foldS (a1, a2) [(b1, b2)]) = S
  exact bodyPost_ret (v := .tuple #[.agg #[.int .i64 S.1.1, .int .i64 S.1.2], .int .i64 S.2]) (by simp only [results, Try.results70]; go_simp) rfl ⟨rfl, (by repeat' (first | exact Below.refl _ _ | assumption | apply bDrewN | apply bDrew | apply bAlloc | (refine bSet ?_ ?_ _) | (refine bStep ?_ (by assumption)) | omega | (simp <;> omega)))⟩

def hasS (s : Int × Int) (x : Int) : Bool := okS s && decide (s.1 ≤ x) && decide (x ≤ s.2)
set_option maxHeartbeats 400000 in
theorem Has_any (s : Int × Int) (x : Int) (w : World) :
    Calls Try.prog 16 #[.agg #[.int .i64 s.1, .int .i64 s.2], .int .i64 x] w fun e w' => e = .returned (.bool (hasS s x)) ∧ Below w.heap.size w w' := by
  obtain ⟨a1, a2⟩ := s
  unfold hasS
  cases h : okS (a1, a2) <;> cases h2 : decide (a1 ≤ x) <;> cases h3 : decide (x ≤ a2)
  all_goals
    go_enter Try.func16, Try.ntmps16
    go_wp2_with (go_at_call 54; refine (valid_oneN _ _ _ _ _ _ _ (by simp)).mono ?_; rintro e w1 ⟨rfl, hb⟩; obtain ⟨hcw1, hfw1⟩ := bcell hb; have hzw1 := Below.size hb; (try simp at hzw1); have hzw10 : w.heap.size < w1.heap.size := (by omega); have hzw11 : w.heap.size + 1 < w1.heap.size := (by omega))
    go_ret
    exact ⟨rfl, (by repeat' (first | exact Below.refl _ _ | assumption | apply bDrewN | apply bDrew | apply bAlloc | (refine bSet ?_ ?_ _) | (refine bStep ?_ (by assumption)) | omega | (simp <;> omega)))⟩

def insideS (a b : Int × Int) : Bool := okS a && okS b && decide (b.1 ≤ a.1) && decide (a.2 ≤ b.2)
set_option maxHeartbeats 400000 in
theorem Inside_any (a b : Int × Int) (w : World) :
    Calls Try.prog 64 #[.agg #[.int .i64 a.1, .int .i64 a.2], .agg #[.int .i64 b.1, .int .i64 b.2]] w fun e w' => e = .returned (.bool (insideS a b)) ∧ Below w.heap.size w w' := by
  obtain ⟨a1, a2⟩ := a
  obtain ⟨b1, b2⟩ := b
  unfold insideS
  cases h : (okS (a1, a2) && okS (b1, b2)) <;> cases h2 : decide (b1 ≤ a1) <;> cases h3 : decide (a2 ≤ b2)
  all_goals
    go_enter Try.func64, Try.ntmps64
    go_wp2_with (go_at_call 54; refine (valid_twoN _ _ _ _ _ _ _ _ _ (by simp)).mono ?_; rintro e w1 ⟨rfl, hb⟩; obtain ⟨hcw1, hfw1⟩ := bcell hb; have hzw1 := Below.size hb; (try simp at hzw1); have hzw10 : w.heap.size < w1.heap.size := (by omega); have hzw11 : w.heap.size + 1 < w1.heap.size := (by omega))
    go_ret
    exact ⟨rfl, (by repeat' (first | exact Below.refl _ _ | assumption | apply bDrewN | apply bDrew | apply bAlloc | (refine bSet ?_ ?_ _) | (refine bStep ?_ (by assumption)) | omega | (simp <;> omega)))⟩

end Go.Proofs.Ytkldlmbccdfjdaa
