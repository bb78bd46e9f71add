/-
  The walk of the law's 'work'.
-/
import Derived.Test.YtjnllfebeeiilaaIp
set_option linter.unusedSimpArgs false
set_option linter.unusedVariables false
namespace Go.Proofs.Ytjnllfebeeiilaa
open Go.RowKit

set_option maxHeartbeats 1000000 in
theorem work_0 (a b : Int × Int) (n d : Int) (w : World) (n1 : -32768 ≤ n) (n2 : n ≤ 32767) (d1 : 1 ≤ d) (d2 : d ≤ 65536) :
    Calls Try.prog 37 #[.int .i64 0, .agg #[.int .i64 a.1, .int .i64 a.2], .agg #[.int .i64 b.1, .int .i64 b.2], .int .i64 n, .int .i64 d] w fun e w' => e = .returned (.tuple #[.agg #[.int .i64 (addS a b).1.1, .int .i64 (addS a b).1.2], .int .i64 (addS a b).2]) ∧ Below w.heap.size w w' := by
  have C := Lib.hid (fun w => Add_any a b w)
  generalize addS a b = S at *
  obtain ⟨⟨l, u⟩, z⟩ := S
  obtain ⟨a1, a2⟩ := a
  obtain ⟨b1, b2⟩ := b
  dsimp only at *
  go_enter Try.func37, Try.ntmps37
  go_wp2_with (go_at_call 32; refine (C.out _).mono ?_; rintro e w1 ⟨rfl, hb⟩; obtain ⟨hcw1, hfw1⟩ := bcell hb; have hzw1 := Below.size hb; (try simp at hzw1); have hzw10 : w.heap.size < w1.heap.size := (by omega); have hzw11 : w.heap.size + 1 < w1.heap.size := (by omega); have hzw12 : w.heap.size + 1 + 1 < w1.heap.size := (by omega))
  exact bodyPost_ret (v := .tuple #[.agg #[.int .i64 l, .int .i64 u], .int .i64 z]) (by simp only [results, Try.results37]; go_simp) rfl ⟨rfl, (by repeat' (first | exact Below.refl _ _ | assumption | apply bDrewN | apply bDrew | apply bAlloc | (refine bSet ?_ ?_ _) | (refine bStep ?_ (by assumption)) | omega | (simp <;> omega)))⟩

set_option maxHeartbeats 1000000 in
theorem work_1 (a b : Int × Int) (n d : Int) (w : World) (n1 : -32768 ≤ n) (n2 : n ≤ 32767) (d1 : 1 ≤ d) (d2 : d ≤ 65536) :
    Calls Try.prog 37 #[.int .i64 1, .agg #[.int .i64 a.1, .int .i64 a.2], .agg #[.int .i64 b.1, .int .i64 b.2], .int .i64 n, .int .i64 d] w fun e w' => e = .returned (.tuple #[.agg #[.int .i64 (subS a b).1.1, .int .i64 (subS a b).1.2], .int .i64 (subS a b).2]) ∧ Below w.heap.size w w' := by
  have C := Lib.hid (fun w => Sub_any a b w)
  generalize subS a b = S at *
  obtain ⟨⟨l, u⟩, z⟩ := S
  obtain ⟨a1, a2⟩ := a
  obtain ⟨b1, b2⟩ := b
  dsimp only at *
  go_enter Try.func37, Try.ntmps37
  go_wp2_with (go_at_call 33; refine (C.out _).mono ?_; rintro e w1 ⟨rfl, hb⟩; obtain ⟨hcw1, hfw1⟩ := bcell hb; have hzw1 := Below.size hb; (try simp at hzw1); have hzw10 : w.heap.size < w1.heap.size := (by omega); have hzw11 : w.heap.size + 1 < w1.heap.size := (by omega); have hzw12 : w.heap.size + 1 + 1 < w1.heap.size := (by omega))
  exact bodyPost_ret (v := .tuple #[.agg #[.int .i64 l, .int .i64 u], .int .i64 z]) (by simp only [results, Try.results37]; go_simp) rfl ⟨rfl, (by repeat' (first | exact Below.refl _ _ | assumption | apply bDrewN | apply bDrew | apply bAlloc | (refine bSet ?_ ?_ _) | (refine bStep ?_ (by assumption)) | omega | (simp <;> omega)))⟩

set_option maxHeartbeats 1000000 in
theorem work_2 (a b : Int × Int) (n d : Int) (w : World) (n1 : -32768 ≤ n) (n2 : n ≤ 32767) (d1 : 1 ≤ d) (d2 : d ≤ 65536) :
    Calls Try.prog 37 #[.int .i64 2, .agg #[.int .i64 a.1, .int .i64 a.2], .agg #[.int .i64 b.1, .int .i64 b.2], .int .i64 n, .int .i64 d] w fun e w' => e = .returned (.tuple #[.agg #[.int .i64 (scaleS a n d).1.1, .int .i64 (scaleS a n d).1.2], .int .i64 (scaleS a n d).2]) ∧ Below w.heap.size w w' := by
  have C := Lib.hid (fun w => Scale_any a n d w)
  generalize scaleS a n d = S at *
  obtain ⟨⟨l, u⟩, z⟩ := S
  obtain ⟨a1, a2⟩ := a
  obtain ⟨b1, b2⟩ := b
  dsimp only at *
  go_enter Try.func37, Try.ntmps37
  go_wp2_with (go_at_call 21; refine (C.out _).mono ?_; rintro e w1 ⟨rfl, hb⟩; obtain ⟨hcw1, hfw1⟩ := bcell hb; have hzw1 := Below.size hb; (try simp at hzw1); have hzw10 : w.heap.size < w1.heap.size := (by omega); have hzw11 : w.heap.size + 1 < w1.heap.size := (by omega); have hzw12 : w.heap.size + 1 + 1 < w1.heap.size := (by omega))
  exact bodyPost_ret (v := .tuple #[.agg #[.int .i64 l, .int .i64 u], .int .i64 z]) (by simp only [results, Try.results37]; go_simp) rfl ⟨rfl, (by repeat' (first | exact Below.refl _ _ | assumption | apply bDrewN | apply bDrew | apply bAlloc | (refine bSet ?_ ?_ _) | (refine bStep ?_ (by assumption)) | omega | (simp <;> omega)))⟩

set_option maxHeartbeats 1000000 in
theorem work_3 (a b : Int × Int) (n d : Int) (w : World) (n1 : -32768 ≤ n) (n2 : n ≤ 32767) (d1 : 1 ≤ d) (d2 : d ≤ 65536) :
    Calls Try.prog 37 #[.int .i64 3, .agg #[.int .i64 a.1, .int .i64 a.2], .agg #[.int .i64 b.1, .int .i64 b.2], .int .i64 n, .int .i64 d] w fun e w' => e = .returned (.tuple #[.agg #[.int .i64 (mulS a b d).1.1, .int .i64 (mulS a b d).1.2], .int .i64 (mulS a b d).2]) ∧ Below w.heap.size w w' := by
  have C := Lib.hid (fun w => Mul_any a b d w)
  generalize mulS a b d = S at *
  obtain ⟨⟨l, u⟩, z⟩ := S
  obtain ⟨a1, a2⟩ := a
  obtain ⟨b1, b2⟩ := b
  dsimp only at *
  go_enter Try.func37, Try.ntmps37
  go_wp2_with (go_at_call 19; refine (C.out _).mono ?_; rintro e w1 ⟨rfl, hb⟩; obtain ⟨hcw1, hfw1⟩ := bcell hb; have hzw1 := Below.size hb; (try simp at hzw1); have hzw10 : w.heap.size < w1.heap.size := (by omega); have hzw11 : w.heap.size + 1 < w1.heap.size := (by omega); have hzw12 : w.heap.size + 1 + 1 < w1.heap.size := (by omega))
  exact bodyPost_ret (v := .tuple #[.agg #[.int .i64 l, .int .i64 u], .int .i64 z]) (by simp only [results, Try.results37]; go_simp) rfl ⟨rfl, (by repeat' (first | exact Below.refl _ _ | assumption | apply bDrewN | apply bDrew | apply bAlloc | (refine bSet ?_ ?_ _) | (refine bStep ?_ (by assumption)) | omega | (simp <;> omega)))⟩

set_option maxHeartbeats 1000000 in
theorem work_4 (a b : Int × Int) (n d : Int) (w : World) (n1 : -32768 ≤ n) (n2 : n ≤ 32767) (d1 : 1 ≤ d) (d2 : d ≤ 65536) :
    Calls Try.prog 37 #[.int .i64 4, .agg #[.int .i64 a.1, .int .i64 a.2], .agg #[.int .i64 b.1, .int .i64 b.2], .int .i64 n, .int .i64 d] w fun e w' => e = .returned (.tuple #[.agg #[.int .i64 (divS a b n).1.1, .int .i64 (divS a b n).1.2], .int .i64 (divS a b n).2]) ∧ Below w.heap.size w w' := by
  have C := Lib.hid (fun w => Div_any a b n w)
  generalize divS a b n = S at *
  obtain ⟨⟨l, u⟩, z⟩ := S
  obtain ⟨a1, a2⟩ := a
  obtain ⟨b1, b2⟩ := b
  dsimp only at *
  go_enter Try.func37, Try.ntmps37
  go_wp2_with (go_at_call 23; refine (C.out _).mono ?_; rintro e w1 ⟨rfl, hb⟩; obtain ⟨hcw1, hfw1⟩ := bcell hb; have hzw1 := Below.size hb; (try simp at hzw1); have hzw10 : w.heap.size < w1.heap.size := (by omega); have hzw11 : w.heap.size + 1 < w1.heap.size := (by omega); have hzw12 : w.heap.size + 1 + 1 < w1.heap.size := (by omega))
  exact bodyPost_ret (v := .tuple #[.agg #[.int .i64 l, .int .i64 u], .int .i64 z]) (by simp only [results, Try.results37]; go_simp) rfl ⟨rfl, (by repeat' (first | exact Below.refl _ _ | assumption | apply bDrewN | apply bDrew | apply bAlloc | (refine bSet ?_ ?_ _) | (refine bStep ?_ (by assumption)) | omega | (simp <;> omega)))⟩

set_option maxHeartbeats 1000000 in
theorem work_5 (a b : Int × Int) (n d : Int) (w : World) (n1 : -32768 ≤ n) (n2 : n ≤ 32767) (d1 : 1 ≤ d) (d2 : d ≤ 65536) :
    Calls Try.prog 37 #[.int .i64 5, .agg #[.int .i64 a.1, .int .i64 a.2], .agg #[.int .i64 b.1, .int .i64 b.2], .int .i64 n, .int .i64 d] w fun e w' => e = .returned (.tuple #[.agg #[.int .i64 (squareS a d).1.1, .int .i64 (squareS a d).1.2], .int .i64 (squareS a d).2]) ∧ Below w.heap.size w w' := by
  have C := Lib.hid (fun w => Square_any a d w)
  generalize squareS a d = S at *
  obtain ⟨⟨l, u⟩, z⟩ := S
  obtain ⟨a1, a2⟩ := a
  obtain ⟨b1, b2⟩ := b
  dsimp only at *
  go_enter Try.func37, Try.ntmps37
  go_wp2_with (go_at_call 22; refine (C.out _).mono ?_; rintro e w1 ⟨rfl, hb⟩; obtain ⟨hcw1, hfw1⟩ := bcell hb; have hzw1 := Below.size hb; (try simp at hzw1); have hzw10 : w.heap.size < w1.heap.size := (by omega); have hzw11 : w.heap.size + 1 < w1.heap.size := (by omega); have hzw12 : w.heap.size + 1 + 1 < w1.heap.size := (by omega))
  exact bodyPost_ret (v := .tuple #[.agg #[.int .i64 l, .int .i64 u], .int .i64 z]) (by simp only [results, Try.results37]; go_simp) rfl ⟨rfl, (by repeat' (first | exact Below.refl _ _ | assumption | apply bDrewN | apply bDrew | apply bAlloc | (refine bSet ?_ ?_ _) | (refine bStep ?_ (by assumption)) | omega | (simp <;> omega)))⟩

set_option maxHeartbeats 1000000 in
theorem work_6 (a b : Int × Int) (n d : Int) (w : World) (n1 : -32768 ≤ n) (n2 : n ≤ 32767) (d1 : 1 ≤ d) (d2 : d ≤ 65536) :
    Calls Try.prog 37 #[.int .i64 6, .agg #[.int .i64 a.1, .int .i64 a.2], .agg #[.int .i64 b.1, .int .i64 b.2], .int .i64 n, .int .i64 d] w fun e w' => e = .returned (.tuple #[.agg #[.int .i64 (meetS a b).1.1, .int .i64 (meetS a b).1.2], .int .i64 (meetS a b).2]) ∧ Below w.heap.size w w' := by
  have C := Lib.hid (fun w => Meet_any a b w)
  generalize meetS a b = S at *
  obtain ⟨⟨l, u⟩, z⟩ := S
  obtain ⟨a1, a2⟩ := a
  obtain ⟨b1, b2⟩ := b
  dsimp only at *
  go_enter Try.func37, Try.ntmps37
  go_wp2_with (go_at_call 14; refine (C.out _).mono ?_; rintro e w1 ⟨rfl, hb⟩; obtain ⟨hcw1, hfw1⟩ := bcell hb; have hzw1 := Below.size hb; (try simp at hzw1); have hzw10 : w.heap.size < w1.heap.size := (by omega); have hzw11 : w.heap.size + 1 < w1.heap.size := (by omega); have hzw12 : w.heap.size + 1 + 1 < w1.heap.size := (by omega))
  exact bodyPost_ret (v := .tuple #[.agg #[.int .i64 l, .int .i64 u], .int .i64 z]) (by simp only [results, Try.results37]; go_simp) rfl ⟨rfl, (by repeat' (first | exact Below.refl _ _ | assumption | apply bDrewN | apply bDrew | apply bAlloc | (refine bSet ?_ ?_ _) | (refine bStep ?_ (by assumption)) | omega | (simp <;> omega)))⟩

set_option maxHeartbeats 1000000 in
theorem work_7 (a b : Int × Int) (n d : Int) (w : World) (n1 : -32768 ≤ n) (n2 : n ≤ 32767) (d1 : 1 ≤ d) (d2 : d ≤ 65536) :
    Calls Try.prog 37 #[.int .i64 7, .agg #[.int .i64 a.1, .int .i64 a.2], .agg #[.int .i64 b.1, .int .i64 b.2], .int .i64 n, .int .i64 d] w fun e w' => e = .returned (.tuple #[.agg #[.int .i64 (clipS a (n - d) (n + d)).1.1, .int .i64 (clipS a (n - d) (n + d)).1.2], .int .i64 (clipS a (n - d) (n + d)).2]) ∧ Below w.heap.size w w' := by
  have C := Lib.hid (fun w => Clip_any a (n - d) (n + d) w)
  generalize clipS a (n - d) (n + d) = S at *
  obtain ⟨⟨l, u⟩, z⟩ := S
  obtain ⟨a1, a2⟩ := a
  obtain ⟨b1, b2⟩ := b
  dsimp only at *
  go_enter Try.func37, Try.ntmps37
  go_wp2_with (go_at_call 92; refine (C.out _).mono ?_; rintro e w1 ⟨rfl, hb⟩; obtain ⟨hcw1, hfw1⟩ := bcell hb; have hzw1 := Below.size hb; (try simp at hzw1); have hzw10 : w.heap.size < w1.heap.size := (by omega); have hzw11 : w.heap.size + 1 < w1.heap.size := (by omega); have hzw12 : w.heap.size + 1 + 1 < w1.heap.size := (by omega))
  exact bodyPost_ret (v := .tuple #[.agg #[.int .i64 l, .int .i64 u], .int .i64 z]) (by simp only [results, Try.results37]; go_simp) rfl ⟨rfl, (by repeat' (first | exact Below.refl _ _ | assumption | apply bDrewN | apply bDrew | apply bAlloc | (refine bSet ?_ ?_ _) | (refine bStep ?_ (by assumption)) | omega | (simp <;> omega)))⟩

set_option maxHeartbeats 1000000 in
theorem work_8 (i : Int) (a b : Int × Int) (n d : Int) (w : World) (n1 : -32768 ≤ n) (n2 : n ≤ 32767) (d1 : 1 ≤ d) (d2 : d ≤ 65536) (i0 : i ≠ 0) (i1 : i ≠ 1) (i2 : i ≠ 2) (i3 : i ≠ 3) (i4 : i ≠ 4) (i5 : i ≠ 5) (i6 : i ≠ 6) (i7 : i ≠ 7) :
    Calls Try.prog 37 #[.int .i64 i, .agg #[.int .i64 a.1, .int .i64 a.2], .agg #[.int .i64 b.1, .int .i64 b.2], .int .i64 n, .int .i64 d] w fun e w' => e = .returned (.tuple #[.agg #[.int .i64 (growS a d).1.1, .int .i64 (growS a d).1.2], .int .i64 (growS a d).2]) ∧ Below w.heap.size w w' := by
  have C := Lib.hid (fun w => Grow_any a d w)
  generalize growS a d = S at *
  obtain ⟨⟨l, u⟩, z⟩ := S
  obtain ⟨a1, a2⟩ := a
  obtain ⟨b1, b2⟩ := b
  dsimp only at *
  go_enter Try.func37, Try.ntmps37
  go_wp2_with (go_at_call 93; refine (C.out _).mono ?_; rintro e w1 ⟨rfl, hb⟩; obtain ⟨hcw1, hfw1⟩ := bcell hb; have hzw1 := Below.size hb; (try simp at hzw1); have hzw10 : w.heap.size < w1.heap.size := (by omega); have hzw11 : w.heap.size + 1 < w1.heap.size := (by omega); have hzw12 : w.heap.size + 1 + 1 < w1.heap.size := (by omega))
  exact bodyPost_ret (v := .tuple #[.agg #[.int .i64 l, .int .i64 u], .int .i64 z]) (by simp only [results, Try.results37]; go_simp) rfl ⟨rfl, (by repeat' (first | exact Below.refl _ _ | assumption | apply bDrewN | apply bDrew | apply bAlloc | (refine bSet ?_ ?_ _) | (refine bStep ?_ (by assumption)) | omega | (simp <;> omega)))⟩

theorem work_any (i : Int) (a b : Int × Int) (n d : Int) (w : World) (n1 : -32768 ≤ n) (n2 : n ≤ 32767) (d1 : 1 ≤ d) (d2 : d ≤ 65536) :
    Calls Try.prog 37 #[.int .i64 i, .agg #[.int .i64 a.1, .int .i64 a.2], .agg #[.int .i64 b.1, .int .i64 b.2], .int .i64 n, .int .i64 d] w fun e w' => e = .returned (.tuple #[.agg #[.int .i64 (workS i a b n d).1.1, .int .i64 (workS i a b n d).1.2], .int .i64 (workS i a b n d).2]) ∧ Below w.heap.size w w' := by
  unfold workS
  by_cases e0 : i = 0
  · simp only [if_pos e0]; rw [e0]; exact work_0 a b n d w n1 n2 d1 d2
  simp only [if_neg e0]
  by_cases e1 : i = 1
  · simp only [if_pos e1]; rw [e1]; exact work_1 a b n d w n1 n2 d1 d2
  simp only [if_neg e1]
  by_cases e2 : i = 2
  · simp only [if_pos e2]; rw [e2]; exact work_2 a b n d w n1 n2 d1 d2
  simp only [if_neg e2]
  by_cases e3 : i = 3
  · simp only [if_pos e3]; rw [e3]; exact work_3 a b n d w n1 n2 d1 d2
  simp only [if_neg e3]
  by_cases e4 : i = 4
  · simp only [if_pos e4]; rw [e4]; exact work_4 a b n d w n1 n2 d1 d2
  simp only [if_neg e4]
  by_cases e5 : i = 5
  · simp only [if_pos e5]; rw [e5]; exact work_5 a b n d w n1 n2 d1 d2
  simp only [if_neg e5]
  by_cases e6 : i = 6
  · simp only [if_pos e6]; rw [e6]; exact work_6 a b n d w n1 n2 d1 d2
  simp only [if_neg e6]
  by_cases e7 : i = 7
  · simp only [if_pos e7]; rw [e7]; exact work_7 a b n d w n1 n2 d1 d2
  simp only [if_neg e7]
  exact work_8 i a b n d w n1 n2 d1 d2 e0 e1 e2 e3 e4 e5 e6 e7

end Go.Proofs.Ytjnllfebeeiilaa
