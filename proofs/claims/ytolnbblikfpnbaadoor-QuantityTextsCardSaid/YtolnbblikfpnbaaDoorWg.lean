/-
  The walks of Meet, Hull, Has, Inside.
-/
import Derived.Test.YtolnbblikfpnbaaDoorWf
set_option linter.unusedSimpArgs false
set_option linter.unusedVariables false
namespace Go.Proofs.YtolnbblikfpnbaaDoor
open Go.RowKit

def E2 : (Int × Int) × Int := ((0, 0), 2)
def meetS (a b : Int × Int) : (Int × Int) × Int :=
  if okS a = true ∧ okS b = true then (if min a.2 b.2 < max a.1 b.1 then ((0, 0), 5) else ((max a.1 b.1, min a.2 b.2), 0)) else E2
theorem meetS_no {a b : Int × Int} (h : (okS a && okS b) = false) : meetS a b = E2 := if_neg (by simpa using h)
theorem meetS_none {a b : Int × Int} (h : (okS a && okS b) = true) (h2 : min a.2 b.2 < max a.1 b.1) : meetS a b = ((0, 0), 5) := by
  unfold meetS; rw [if_pos (by simpa using h), if_pos h2]
theorem meetS_yes {a b : Int × Int} (h : (okS a && okS b) = true) (h2 : ¬ min a.2 b.2 < max a.1 b.1) : meetS a b = ((max a.1 b.1, min a.2 b.2), 0) := by
  unfold meetS; rw [if_pos (by simpa using h), if_neg h2]

def hullS (a b : Int × Int) : (Int × Int) × Int := if okS a = true ∧ okS b = true then ((min a.1 b.1, max a.2 b.2), 0) else E2
theorem hullS_no {a b : Int × Int} (h : (okS a && okS b) = false) : hullS a b = E2 := if_neg (by simpa using h)
theorem hullS_yes {a b : Int × Int} (h : (okS a && okS b) = true) : hullS a b = ((min a.1 b.1, max a.2 b.2), 0) := if_pos (by simpa using h)
theorem hull_span {a b : Int × Int} (h : (okS a && okS b) = true) : spanS (foldS a [b]) = hullS a b := by
  rw [hullS_yes h]
  simp only [Bool.and_eq_true] at h
  have h1 := okS_bd h.1
  have h2 := okS_bd h.2
  refine spanS_yes ((isQ_iff _).2 ?_) ((isQ_iff _).2 ?_) <;> simp only [foldS, List.foldl] <;> omega

def hasS (s : Int × Int) (x : Int) : Bool := okS s && decide (s.1 ≤ x) && decide (x ≤ s.2)
set_option maxHeartbeats 400000 in
theorem Has_any (s : Int × Int) (x : Int) (w : World) :
    Calls Tryd.prog 17 #[.agg #[.int .i64 s.1, .int .i64 s.2], .int .i64 x] w fun e w' => e = .returned (.bool (hasS s x)) ∧ Below w.heap.size w w' := by
  obtain ⟨a1, a2⟩ := s
  unfold hasS
  cases h : okS (a1, a2) <;> cases h2 : decide (a1 ≤ x) <;> cases h3 : decide (x ≤ a2)
  all_goals
    go_enter Tryd.func17, Tryd.ntmps17
    go_wp2_with (go_at_call 18; refine (valid_oneN _ _ _ _ _ _ _ (by simp)).mono ?_; rintro e w1 ⟨rfl, hb⟩; obtain ⟨hcw1, hfw1⟩ := bcell hb; have hzw1 := Below.size hb; (try simp at hzw1); have hzw10 : w.heap.size < w1.heap.size := (by omega); have hzw11 : w.heap.size + 1 < w1.heap.size := (by omega))
    go_ret
    exact ⟨rfl, (by repeat' (first | exact Below.refl _ _ | assumption | apply bDrewN | apply bDrew | apply bAlloc | (refine bSet ?_ ?_ _) | (refine bStep ?_ (by assumption)) | omega | (simp <;> omega)))⟩

def insideS (a b : Int × Int) : Bool := okS a && okS b && decide (b.1 ≤ a.1) && decide (a.2 ≤ b.2)
end Go.Proofs.YtolnbblikfpnbaaDoor
