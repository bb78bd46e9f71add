/-
  The walks of ratio and around.
-/
import Derived.Test.YtngnehlmbipabaaG2Backs
set_option linter.unusedSimpArgs false
set_option linter.unusedVariables false
namespace Go.Proofs.Ytngnehlmbipabaa
open Go.RowKit

set_option maxHeartbeats 400000 in
theorem ratio_any (x n d : Int) (w : World) (hx0 : -4398046511103 ≤ x) (hx : x ≤ 4398046511103) (hn0 : -4398046511104 ≤ n) (hn : n ≤ 4398046511104) (hd0 : -4398046511104 ≤ d) (hd : d ≤ 4398046511104) (hdz : d ≠ 0) :
    Calls Try.prog 77 #[.int .i64 x, .int .i64 n, .int .i64 d] w fun e w' => e = .returned (.agg #[.int .i64 (dn x n d), .int .i64 (up x n d)]) ∧ Below w.heap.size w w' := by
  have H := Lib.hid (fun w => down_any x n d w (by omega) (by omega) hn0 hn hd0 hd hdz)
  have K := Lib.hid (fun w => up_any x n d w (by omega) (by omega) hn0 hn hd0 hd hdz)
  generalize dn x n d = v at *
  generalize up x n d = u at *
  go_enter Try.func77, Try.ntmps77
  go_wp2_with (first | (go_at_call 46; refine (H.out _).mono ?_; rintro e w' ⟨rfl, k, rfl⟩) | (go_at_call 87; refine (K.out _).mono ?_; rintro e w' ⟨rfl, k, rfl⟩))
  exact bodyPost_ret (v := .agg #[.int .i64 v, .int .i64 u]) (by simp [results, Try.results77, go_sem]) rfl ⟨rfl, (by repeat' (first | exact Below.refl _ _ | assumption | apply bDrewN | apply bDrew | apply bAlloc | (refine bSet ?_ ?_ _) | (refine bStep ?_ (by assumption)) | omega | (simp <;> omega)))⟩

/-- The least span around a first one and the others. -/
def foldS (s : Int × Int) (l : List (Int × Int)) : Int × Int := l.foldl (fun s e => (min s.1 e.1, max s.2 e.2)) s
/-- A span, or ErrOver. -/
def spanS (s : Int × Int) : (Int × Int) × Int := if isQ s.1 = true ∧ isQ s.2 = true then (s, 0) else ((0, 0), 4)
theorem foldS_snoc (s : Int × Int) (l : List (Int × Int)) (e : Int × Int) : foldS s (l ++ [e]) = (min (foldS s l).1 e.1, max (foldS s l).2 e.2) := by simp [foldS]

theorem spanS_yes {s : Int × Int} (h1 : isQ s.1 = true) (h2 : isQ s.2 = true) : spanS s = (s, 0) := if_pos ⟨h1, h2⟩
theorem spanS_n1 {s : Int × Int} (h : isQ s.1 = false) : spanS s = ((0, 0), 4) := by simp [spanS, h]
theorem spanS_n2 {s : Int × Int} (h : isQ s.2 = false) : spanS s = ((0, 0), 4) := by simp [spanS, h]

set_option maxHeartbeats 400000 in
theorem around_one (x y : Int) (b : Nat) (w : World) (hb : b < w.heap.size) (g1 : w.cell? ⟨b, 0, none⟩ = some (.int .i64 x)) (g2 : w.cell? ⟨b, 1, none⟩ = some (.int .i64 y)) :
    Calls Try.prog 76 #[.slice (some ⟨b, 0, none⟩) 1 1] w fun e w' => e = .returned (.tuple #[.agg #[.int .i64 (spanS (x, y)).1.1, .int .i64 (spanS (x, y)).1.2], .int .i64 (spanS (x, y)).2]) ∧ Below w.heap.size w w' := by
  cases h1 : isQ x
  · rw [spanS_n1 h1]
    go_enter Try.func76, Try.ntmps76
    go_wp2
    refine wp_loop_once ?_
    go_wp2_with (go_at_call 39; refine (is_any _ _).mono ?_; rintro e w' ⟨rfl, rfl⟩)
    exact bodyPost_ret (v := .tuple #[.agg #[.int .i64 0, .int .i64 0], .int .i64 4]) (by simp [results, Try.results76, go_sem]) rfl ⟨rfl, (by repeat' (first | exact Below.refl _ _ | assumption | apply bDrewN | apply bDrew | apply bAlloc | (refine bSet ?_ ?_ _) | (refine bStep ?_ (by assumption)) | omega | (simp <;> omega)))⟩
  cases h2 : isQ y
  · rw [spanS_n2 h2]
    go_enter Try.func76, Try.ntmps76
    go_wp2
    refine wp_loop_once ?_
    go_wp2_with (go_at_call 39; refine (is_any _ _).mono ?_; rintro e w' ⟨rfl, rfl⟩)
    exact bodyPost_ret (v := .tuple #[.agg #[.int .i64 0, .int .i64 0], .int .i64 4]) (by simp [results, Try.results76, go_sem]) rfl ⟨rfl, (by repeat' (first | exact Below.refl _ _ | assumption | apply bDrewN | apply bDrew | apply bAlloc | (refine bSet ?_ ?_ _) | (refine bStep ?_ (by assumption)) | omega | (simp <;> omega)))⟩
  rw [spanS_yes h1 h2]
  go_enter Try.func76, Try.ntmps76
  go_wp2
  refine wp_loop_once ?_
  go_wp2_with (go_at_call 39; refine (is_any _ _).mono ?_; rintro e w' ⟨rfl, rfl⟩)
  exact bodyPost_ret (v := .tuple #[.agg #[.int .i64 x, .int .i64 y], .int .i64 0]) (by simp [results, Try.results76, go_sem]) rfl ⟨rfl, (by repeat' (first | exact Below.refl _ _ | assumption | apply bDrewN | apply bDrew | apply bAlloc | (refine bSet ?_ ?_ _) | (refine bStep ?_ (by assumption)) | omega | (simp <;> omega)))⟩

theorem min_if (a b : Int) : min a b = if b < a then b else a := by
  rw [Int.min_def]; split <;> split <;> omega
theorem max_if (a b : Int) : max a b = if a < b then b else a := by
  rw [Int.max_def]; split <;> split <;> omega

set_option maxHeartbeats 1000000 in
theorem around_any (s0 : Int × Int) (l : List (Int × Int)) (m : Nat) (hm : l.length = m + 1) (b : Nat) (w : World) (hl : m < 1000000) (hc : SpanCells w b 0 (s0 :: l)) :
    Calls Try.prog 76 #[.slice (some ⟨b, 0, none⟩) (m + 2) (m + 2)] w fun e w' => e = .returned (.tuple #[.agg #[.int .i64 (spanS (foldS s0 l)).1.1, .int .i64 (spanS (foldS s0 l)).1.2], .int .i64 (spanS (foldS s0 l)).2]) ∧ Below w.heap.size w w' := by
  obtain ⟨hb, hc⟩ := hc
  obtain ⟨g1, g2⟩ := hc 0 (by simp)
  simp at g1 g2
  have hc' : ∀ j, j < m + 1 → w.cell? ⟨b, 2 + j * 2, none⟩ = some (.int .i64 (l.getD j (0, 0)).1) ∧ w.cell? ⟨b, 2 + j * 2 + 1, none⟩ = some (.int .i64 (l.getD j (0, 0)).2) := fun j hj => by
    have := hc (j + 1) (by simp; omega)
    have e : 0 + (j + 1) * 2 = 2 + j * 2 := by omega
    rw [e] at this
    simpa using this
  have HC := Lib.hid hc'
  clear hc hc'
  have Hm := Lib.hid hm
  clear hm
  generalize hT : foldS s0 l = T
  have HT := Lib.hid hT
  clear hT
  go_enter Try.func76, Try.ntmps76
  go_wp2
  go_loopw [13] (fun i wr => ∃ k : Nat, k ≤ m + 1 ∧ i = .int .i64 k ∧ Below w.heap.size w wr ∧ w.heap.size + 1 < wr.heap.size ∧ wr.heap[w.heap.size]? = some (.cells #[.int .i64 0, .int .i64 0] 40 (0, 0))
     ∧ wr.heap[w.heap.size + 1]? = some (.cells #[.int .i64 (foldS s0 (l.take k)).1, .int .i64 (foldS s0 (l.take k)).2] 40 (0, 0))) (fun i _ => m + 1 - (intOf i).toNat)
  case atStart => exact ⟨0, by omega, rfl, (by repeat' (first | exact Below.refl _ _ | assumption | apply bDrewN | apply bDrew | apply bAlloc | (refine bSet ?_ ?_ _) | (refine bStep ?_ (by assumption)) | omega | (simp <;> omega))), by simp, blk_alloc (blk_new _ _), by simpa [foldS] using blk_new (w.alloc _) _⟩
  case round =>
    obtain ⟨k, hk, rfl, hB, hsz, c1, c2⟩ := hrel
    generalize hF : foldS s0 (l.take k) = F at c2
    have d1 : wr.cell? ⟨w.heap.size + 1, 0, none⟩ = some (.int .i64 F.1) := by simp [World.cell?, c2]
    have d2 : wr.cell? ⟨w.heap.size + 1, 1, none⟩ = some (.int .i64 F.2) := by simp [World.cell?, c2]
    have d3 : wr.frozen? ⟨w.heap.size + 1, 0, none⟩ = false := by simp [World.frozen?, c2]
    have d4 : wr.frozen? ⟨w.heap.size + 1, 1, none⟩ = false := by simp [World.frozen?, c2]
    have e1 := blk_cell (o := 0) c1 rfl
    have e2 := blk_cell (o := 1) c1 rfl
    have e3 := blk_free (o := 0) c1
    have e4 := blk_free (o := 1) c1
    have C1 := Lib.hid c1
    have C2 := Lib.hid c2
    have HF := Lib.hid hF
    clear c1 c2 hF
    by_cases hlt : k < m + 1
    · obtain ⟨f1, f2⟩ := HC.out k hlt
      rw [← hB.cell (p := ⟨b, 2 + k * 2, none⟩) hb] at f1
      rw [← hB.cell (p := ⟨b, 2 + k * 2 + 1, none⟩) hb] at f2
      generalize hE : l.getD k (0, 0) = E at f1 f2
      have HE := Lib.hid hE
      clear hE
      go_wp2
      go_region
      go_wp2
      go_roundw
      case rel =>
        have hlen : k < l.length := by rw [Hm.out]; exact hlt
        have e : foldS s0 (l.take (k + 1)) = (min F.1 E.1, max F.2 E.2) := by
          rw [List.take_succ_eq_append_getElem hlen, foldS_snoc, HF.out]
          have : l[k] = E := by rw [← HE.out, List.getD_eq_getElem?_getD, List.getElem?_eq_getElem hlen]; rfl
          rw [this]
        refine ⟨k + 1, by omega, by go_num, (by repeat' (first | exact Below.refl _ _ | assumption | apply bDrewN | apply bDrew | apply bAlloc | (refine bSet ?_ ?_ _) | (refine bStep ?_ (by assumption)) | omega | (simp <;> omega))), by simp; omega, ?_, ?_⟩
        · exact blk_alloc (blk_set_other (blk_set_other C1.out (by simp)) (by simp))
        · rw [e, min_if, max_if]
          exact blk_alloc (blk_set (blk_set C2.out))
      case measure => simp [intOf]; omega
    · obtain rfl : k = m + 1 := by omega
      have hF := HF.out
      rw [List.take_of_length_le (by rw [Hm.out]; omega)] at hF
      rw [HT.out] at hF
      subst hF
      clear HF HT
      cases h1 : isQ T.1
      · skip
        go_wp2_with (go_at_call 39; refine (is_any _ _).mono ?_; rintro e w' ⟨rfl, rfl⟩)
        exact bodyPost_ret (v := .tuple #[.agg #[.int .i64 0, .int .i64 0], .int .i64 4]) (by simp [results, Try.results76, go_sem, e1, e2, d1, d2]) rfl ⟨by rw [spanS_n1 h1], (by repeat' (first | exact Below.refl _ _ | assumption | apply bDrewN | apply bDrew | apply bAlloc | (refine bSet ?_ ?_ _) | (refine bStep ?_ (by assumption)) | omega | (simp <;> omega)))⟩
      cases h2 : isQ T.2
      · skip
        go_wp2_with (go_at_call 39; refine (is_any _ _).mono ?_; rintro e w' ⟨rfl, rfl⟩)
        exact bodyPost_ret (v := .tuple #[.agg #[.int .i64 0, .int .i64 0], .int .i64 4]) (by simp [results, Try.results76, go_sem, e1, e2, d1, d2]) rfl ⟨by rw [spanS_n2 h2], (by repeat' (first | exact Below.refl _ _ | assumption | apply bDrewN | apply bDrew | apply bAlloc | (refine bSet ?_ ?_ _) | (refine bStep ?_ (by assumption)) | omega | (simp <;> omega)))⟩
      go_wp2_with (go_at_call 39; refine (is_any _ _).mono ?_; rintro e w' ⟨rfl, rfl⟩)
      exact bodyPost_ret (v := .tuple #[.agg #[.int .i64 T.1, .int .i64 T.2], .int .i64 0]) (by simp [results, Try.results76, go_sem, e1, e2, d1, d2]) rfl ⟨by rw [spanS_yes h1 h2], (by repeat' (first | exact Below.refl _ _ | assumption | apply bDrewN | apply bDrew | apply bAlloc | (refine bSet ?_ ?_ _) | (refine bStep ?_ (by assumption)) | omega | (simp <;> omega)))⟩

/-! around over a row that the caller has just built. -/
theorem around_oneN (X : World) (x y : Int) (t : TypeId) (fr : Nat × Nat) (b : Nat) (hb : b = X.heap.size) :
    Calls Try.prog 76 #[.slice (some ⟨b, 0, none⟩) 1 1] (X.alloc (.cells #[.int .i64 x, .int .i64 y] t fr)) fun e w' => e = .returned (.tuple #[.agg #[.int .i64 (spanS (x, y)).1.1, .int .i64 (spanS (x, y)).1.2], .int .i64 (spanS (x, y)).2]) ∧
      Below (X.alloc (.cells #[.int .i64 x, .int .i64 y] t fr)).heap.size (X.alloc (.cells #[.int .i64 x, .int .i64 y] t fr)) w' := by
  subst hb
  have h := blk_new X (.cells #[.int .i64 x, .int .i64 y] t fr)
  exact around_one x y _ _ (blk_lt h) (blk_cell h rfl) (blk_cell h rfl)
theorem around_twoN (X : World) (x0 y0 x1 y1 : Int) (t : TypeId) (fr : Nat × Nat) (b : Nat) (hb : b = X.heap.size) :
    Calls Try.prog 76 #[.slice (some ⟨b, 0, none⟩) 2 2] (X.alloc (.cells #[.int .i64 x0, .int .i64 y0, .int .i64 x1, .int .i64 y1] t fr)) fun e w' => e = .returned (.tuple #[.agg #[.int .i64 (spanS (foldS (x0, y0) [(x1, y1)])).1.1, .int .i64 (spanS (foldS (x0, y0) [(x1, y1)])).1.2], .int .i64 (spanS (foldS (x0, y0) [(x1, y1)])).2]) ∧
      Below (X.alloc (.cells #[.int .i64 x0, .int .i64 y0, .int .i64 x1, .int .i64 y1] t fr)).heap.size (X.alloc (.cells #[.int .i64 x0, .int .i64 y0, .int .i64 x1, .int .i64 y1] t fr)) w' := by
  subst hb
  have h := blk_new X (.cells #[.int .i64 x0, .int .i64 y0, .int .i64 x1, .int .i64 y1] t fr)
  refine around_any (x0, y0) [(x1, y1)] 0 rfl _ _ (by decide) ⟨blk_lt h, fun j hj => ?_⟩
  have hj' : j = 0 ∨ j = 1 := by simp at hj; omega
  rcases hj' with rfl | rfl
  all_goals exact ⟨blk_cell h rfl, blk_cell h rfl⟩
theorem around_threeN (X : World) (x0 y0 x1 y1 x2 y2 : Int) (t : TypeId) (fr : Nat × Nat) (b : Nat) (hb : b = X.heap.size) :
    Calls Try.prog 76 #[.slice (some ⟨b, 0, none⟩) 3 3] (X.alloc (.cells #[.int .i64 x0, .int .i64 y0, .int .i64 x1, .int .i64 y1, .int .i64 x2, .int .i64 y2] t fr)) fun e w' => e = .returned (.tuple #[.agg #[.int .i64 (spanS (foldS (x0, y0) [(x1, y1), (x2, y2)])).1.1, .int .i64 (spanS (foldS (x0, y0) [(x1, y1), (x2, y2)])).1.2], .int .i64 (spanS (foldS (x0, y0) [(x1, y1), (x2, y2)])).2]) ∧
      Below (X.alloc (.cells #[.int .i64 x0, .int .i64 y0, .int .i64 x1, .int .i64 y1, .int .i64 x2, .int .i64 y2] t fr)).heap.size (X.alloc (.cells #[.int .i64 x0, .int .i64 y0, .int .i64 x1, .int .i64 y1, .int .i64 x2, .int .i64 y2] t fr)) w' := by
  subst hb
  have h := blk_new X (.cells #[.int .i64 x0, .int .i64 y0, .int .i64 x1, .int .i64 y1, .int .i64 x2, .int .i64 y2] t fr)
  refine around_any (x0, y0) [(x1, y1), (x2, y2)] 1 rfl _ _ (by decide) ⟨blk_lt h, fun j hj => ?_⟩
  have hj' : j = 0 ∨ j = 1 ∨ j = 2 := by simp at hj; omega
  rcases hj' with rfl | rfl | rfl
  all_goals exact ⟨blk_cell h rfl, blk_cell h rfl⟩
theorem around_fourN (X : World) (x0 y0 x1 y1 x2 y2 x3 y3 : Int) (t : TypeId) (fr : Nat × Nat) (b : Nat) (hb : b = X.heap.size) :
    Calls Try.prog 76 #[.slice (some ⟨b, 0, none⟩) 4 4] (X.alloc (.cells #[.int .i64 x0, .int .i64 y0, .int .i64 x1, .int .i64 y1, .int .i64 x2, .int .i64 y2, .int .i64 x3, .int .i64 y3] t fr)) fun e w' => e = .returned (.tuple #[.agg #[.int .i64 (spanS (foldS (x0, y0) [(x1, y1), (x2, y2), (x3, y3)])).1.1, .int .i64 (spanS (foldS (x0, y0) [(x1, y1), (x2, y2), (x3, y3)])).1.2], .int .i64 (spanS (foldS (x0, y0) [(x1, y1), (x2, y2), (x3, y3)])).2]) ∧
      Below (X.alloc (.cells #[.int .i64 x0, .int .i64 y0, .int .i64 x1, .int .i64 y1, .int .i64 x2, .int .i64 y2, .int .i64 x3, .int .i64 y3] t fr)).heap.size (X.alloc (.cells #[.int .i64 x0, .int .i64 y0, .int .i64 x1, .int .i64 y1, .int .i64 x2, .int .i64 y2, .int .i64 x3, .int .i64 y3] t fr)) w' := by
  subst hb
  have h := blk_new X (.cells #[.int .i64 x0, .int .i64 y0, .int .i64 x1, .int .i64 y1, .int .i64 x2, .int .i64 y2, .int .i64 x3, .int .i64 y3] t fr)
  refine around_any (x0, y0) [(x1, y1), (x2, y2), (x3, y3)] 2 rfl _ _ (by decide) ⟨blk_lt h, fun j hj => ?_⟩
  have hj' : j = 0 ∨ j = 1 ∨ j = 2 ∨ j = 3 := by simp at hj; omega
  rcases hj' with rfl | rfl | rfl | rfl
  all_goals exact ⟨blk_cell h rfl, blk_cell h rfl⟩

end Go.Proofs.Ytngnehlmbipabaa

/-
  The walks of Meet, Hull, Has, Inside.
-/
set_option linter.unusedSimpArgs false
set_option linter.unusedVariables false
namespace Go.Proofs.Ytngnehlmbipabaa
open Go.RowKit

def E2 : (Int × Int) × Int := ((0, 0), 2)
def meetS (a b : Int × Int) : (Int × Int) × Int :=
  if okS a = true ∧ okS b = true then (if min a.2 b.2 < max a.1 b.1 then ((0, 0), 5) else ((max a.1 b.1, min a.2 b.2), 0)) else E2
theorem meetS_no {a b : Int × Int} (h : (okS a && okS b) = false) : meetS a b = E2 := if_neg (by simpa using h)
theorem meetS_none {a b : Int × Int} (h : (okS a && okS b) = true) (h2 : min a.2 b.2 < max a.1 b.1) : meetS a b = ((0, 0), 5) := by
  unfold meetS; rw [if_pos (by simpa using h), if_pos h2]
theorem meetS_yes {a b : Int × Int} (h : (okS a && okS b) = true) (h2 : ¬ min a.2 b.2 < max a.1 b.1) : meetS a b = ((max a.1 b.1, min a.2 b.2), 0) := by
  unfold meetS; rw [if_pos (by simpa using h), if_neg h2]

set_option maxHeartbeats 400000 in
theorem Meet_any (a b : Int × Int) (w : World) :
    Calls Try.prog 67 #[.agg #[.int .i64 a.1, .int .i64 a.2], .agg #[.int .i64 b.1, .int .i64 b.2]] w fun e w' => e = .returned (.tuple #[.agg #[.int .i64 (meetS a b).1.1, .int .i64 (meetS a b).1.2], .int .i64 (meetS a b).2]) ∧ Below w.heap.size w w' := by
  obtain ⟨a1, a2⟩ := a
  obtain ⟨b1, b2⟩ := b
  cases h : (okS (a1, a2) && okS (b1, b2))
  · rw [meetS_no h]
    go_enter Try.func67, Try.ntmps67
    go_wp2_with (go_at_call 54; refine (valid_twoN _ _ _ _ _ _ _ _ _ (by simp)).mono ?_; rintro e w1 ⟨rfl, hb⟩; obtain ⟨hcw1, hfw1⟩ := bcell hb; have hzw1 := Below.size hb; (try simp at hzw1); have hzw10 : w.heap.size < w1.heap.size := (by omega); have hzw11 : w.heap.size + 1 < w1.heap.size := (by omega); have hzw12 : w.heap.size + 1 + 1 < w1.heap.size := (by omega))
    exact bodyPost_ret (v := .tuple #[.agg #[.int .i64 0, .int .i64 0], .int .i64 2]) (by simp [results, Try.results67, go_sem, hcw1]) rfl ⟨rfl, (by repeat' (first | exact Below.refl _ _ | assumption | apply bDrewN | apply bDrew | apply bAlloc | (refine bSet ?_ ?_ _) | (refine bStep ?_ (by assumption)) | omega | (simp <;> omega)))⟩
  obtain ⟨M, hM⟩ : ∃ M, max a1 b1 = M := ⟨_, rfl⟩
  obtain ⟨m, hm⟩ : ∃ m, min a2 b2 = m := ⟨_, rfl⟩
  have e1 : (if a1 < b1 then b1 else a1) = M := by rw [← hM, max_if]
  have e2 : (if b2 < a2 then b2 else a2) = m := by rw [← hm, min_if]
  by_cases h2 : m < M
  · rw [meetS_none h (by simpa [hM, hm] using h2)]
    clear hM hm
    go_enter Try.func67, Try.ntmps67
    go_wp2_with (go_at_call 54; refine (valid_twoN _ _ _ _ _ _ _ _ _ (by simp)).mono ?_; rintro e w1 ⟨rfl, hb⟩; obtain ⟨hcw1, hfw1⟩ := bcell hb; have hzw1 := Below.size hb; (try simp at hzw1); have hzw10 : w.heap.size < w1.heap.size := (by omega); have hzw11 : w.heap.size + 1 < w1.heap.size := (by omega); have hzw12 : w.heap.size + 1 + 1 < w1.heap.size := (by omega))
    exact bodyPost_ret (v := .tuple #[.agg #[.int .i64 0, .int .i64 0], .int .i64 5]) (by simp [results, Try.results67, go_sem, hcw1, hzw12]) rfl ⟨rfl, (by repeat' (first | exact Below.refl _ _ | assumption | apply bDrewN | apply bDrew | apply bAlloc | (refine bSet ?_ ?_ _) | (refine bStep ?_ (by assumption)) | omega | (simp <;> omega)))⟩
  · rw [meetS_yes h (by simpa [hM, hm] using h2)]
    rw [hM, hm]
    clear hM hm
    go_enter Try.func67, Try.ntmps67
    go_wp2_with (go_at_call 54; refine (valid_twoN _ _ _ _ _ _ _ _ _ (by simp)).mono ?_; rintro e w1 ⟨rfl, hb⟩; obtain ⟨hcw1, hfw1⟩ := bcell hb; have hzw1 := Below.size hb; (try simp at hzw1); have hzw10 : w.heap.size < w1.heap.size := (by omega); have hzw11 : w.heap.size + 1 < w1.heap.size := (by omega); have hzw12 : w.heap.size + 1 + 1 < w1.heap.size := (by omega))
    exact bodyPost_ret (v := .tuple #[.agg #[.int .i64 M, .int .i64 m], .int .i64 0]) (by simp [results, Try.results67, go_sem, hcw1, hzw12]) rfl ⟨rfl, (by repeat' (first | exact Below.refl _ _ | assumption | apply bDrewN | apply bDrew | apply bAlloc | (refine bSet ?_ ?_ _) | (refine bStep ?_ (by assumption)) | omega | (simp <;> omega)))⟩

def hullS (a b : Int × Int) : (Int × Int) × Int := if okS a = true ∧ okS b = true then ((min a.1 b.1, max a.2 b.2), 0) else E2
theorem hullS_no {a b : Int × Int} (h : (okS a && okS b) = false) : hullS a b = E2 := if_neg (by simpa using h)
theorem hullS_yes {a b : Int × Int} (h : (okS a && okS b) = true) : hullS a b = ((min a.1 b.1, max a.2 b.2), 0) := if_pos (by simpa using h)
theorem hull_span {a b : Int × Int} (h : (okS a && okS b) = true) : spanS (foldS a [b]) = hullS a b := by
  rw [hullS_yes h]
  simp only [Bool.and_eq_true] at h
  have h1 := okS_bd h.1
  have h2 := okS_bd h.2
  refine spanS_yes ((isQ_iff _).2 ?_) ((isQ_iff _).2 ?_) <;> simp only [foldS, List.foldl] <;> omega

set_option maxHeartbeats 400000 in
theorem Hull_any (a b : Int × Int) (w : World) :
    Calls Try.prog 70 #[.agg #[.int .i64 a.1, .int .i64 a.2], .agg #[.int .i64 b.1, .int .i64 b.2]] w fun e w' => e = .returned (.tuple #[.agg #[.int .i64 (hullS a b).1.1, .int .i64 (hullS a b).1.2], .int .i64 (hullS a b).2]) ∧ Below w.heap.size w w' := by
  cases h : (okS a && okS b)
  · rw [hullS_no h]
    obtain ⟨a1, a2⟩ := a
    obtain ⟨b1, b2⟩ := b
    go_enter Try.func70, Try.ntmps70
    go_wp2_with (go_at_call 54; refine (valid_twoN _ _ _ _ _ _ _ _ _ (by simp)).mono ?_; rintro e w1 ⟨rfl, hb⟩; obtain ⟨hcw1, hfw1⟩ := bcell hb; have hzw1 := Below.size hb; (try simp at hzw1); have hzw10 : w.heap.size < w1.heap.size := (by omega); have hzw11 : w.heap.size + 1 < w1.heap.size := (by omega); have hzw12 : w.heap.size + 1 + 1 < w1.heap.size := (by omega))
    exact bodyPost_ret (v := .tuple #[.agg #[.int .i64 0, .int .i64 0], .int .i64 2]) (by simp [results, Try.results70, go_sem, hcw1]) rfl ⟨rfl, (by repeat' (first | exact Below.refl _ _ | assumption | apply bDrewN | apply bDrew | apply bAlloc | (refine bSet ?_ ?_ _) | (refine bStep ?_ (by assumption)) | omega | (simp <;> omega)))⟩
  rw [← hull_span h]
  obtain ⟨a1, a2⟩ := a
  obtain ⟨b1, b2⟩ := b
  go_enter Try.func70, Try.ntmps70
  go_wp2_with (first | (go_at_call 54; refine (valid_twoN _ _ _ _ _ _ _ _ _ (by simp)).mono ?_; rintro e w1 ⟨rfl, hb⟩; obtain ⟨hcw1, hfw1⟩ := bcell hb; have hzw1 := Below.size hb; (try simp at hzw1); have hzw10 : w.heap.size < w1.heap.size := (by omega); have hzw11 : w.heap.size + 1 < w1.heap.size := (by omega); have hzw12 : w.heap.size + 1 + 1 < w1.heap.size := (by omega)) | (go_at_call 76; refine (around_twoN _ _ _ _ _ _ _ _ (by simp)).mono ?_; rintro e w2 ⟨rfl, hb2⟩; obtain ⟨hcw2, hfw2⟩ := bcell hb2; have hzw2 := Below.size hb2; (try simp at hzw2); have hzw20 : w.heap.size < w2.heap.size := (by omega); have hzw21 : w.heap.size + 1 < w2.heap.size := (by omega); have hzw22 : w.heap.size + 1 + 1 < w2.heap.size := (by omega)))
  generalize spanS (foldS (a1, a2) [(b1, b2)]) = S
  exact bodyPost_ret (v := .tuple #[.agg #[.int .i64 S.1.1, .int .i64 S.1.2], .int .i64 S.2]) (by simp only [results, Try.results70]; go_simp) rfl ⟨rfl, (by repeat' (first | exact Below.refl _ _ | assumption | apply bDrewN | apply bDrew | apply bAlloc | (refine bSet ?_ ?_ _) | (refine bStep ?_ (by assumption)) | omega | (simp <;> omega)))⟩

def hasS (s : Int × Int) (x : Int) : Bool := okS s && decide (s.1 ≤ x) && decide (x ≤ s.2)
set_option maxHeartbeats 400000 in
theorem Has_any (s : Int × Int) (x : Int) (w : World) :
    Calls Try.prog 16 #[.agg #[.int .i64 s.1, .int .i64 s.2], .int .i64 x] w fun e w' => e = .returned (.bool (hasS s x)) ∧ Below w.heap.size w w' := by
  obtain ⟨a1, a2⟩ := s
  unfold hasS
  cases h : okS (a1, a2) <;> cases h2 : decide (a1 ≤ x) <;> cases h3 : decide (x ≤ a2)
  all_goals
    go_enter Try.func16, Try.ntmps16
    go_wp2_with (go_at_call 54; refine (valid_oneN _ _ _ _ _ _ _ (by simp)).mono ?_; rintro e w1 ⟨rfl, hb⟩; obtain ⟨hcw1, hfw1⟩ := bcell hb; have hzw1 := Below.size hb; (try simp at hzw1); have hzw10 : w.heap.size < w1.heap.size := (by omega); have hzw11 : w.heap.size + 1 < w1.heap.size := (by omega))
    go_ret
    exact ⟨rfl, (by repeat' (first | exact Below.refl _ _ | assumption | apply bDrewN | apply bDrew | apply bAlloc | (refine bSet ?_ ?_ _) | (refine bStep ?_ (by assumption)) | omega | (simp <;> omega)))⟩

def insideS (a b : Int × Int) : Bool := okS a && okS b && decide (b.1 ≤ a.1) && decide (a.2 ≤ b.2)
set_option maxHeartbeats 400000 in
theorem Inside_any (a b : Int × Int) (w : World) :
    Calls Try.prog 64 #[.agg #[.int .i64 a.1, .int .i64 a.2], .agg #[.int .i64 b.1, .int .i64 b.2]] w fun e w' => e = .returned (.bool (insideS a b)) ∧ Below w.heap.size w w' := by
  obtain ⟨a1, a2⟩ := a
  obtain ⟨b1, b2⟩ := b
  unfold insideS
  cases h : (okS (a1, a2) && okS (b1, b2)) <;> cases h2 : decide (b1 ≤ a1) <;> cases h3 : decide (a2 ≤ b2)
  all_goals
    go_enter Try.func64, Try.ntmps64
    go_wp2_with (go_at_call 54; refine (valid_twoN _ _ _ _ _ _ _ _ _ (by simp)).mono ?_; rintro e w1 ⟨rfl, hb⟩; obtain ⟨hcw1, hfw1⟩ := bcell hb; have hzw1 := Below.size hb; (try simp at hzw1); have hzw10 : w.heap.size < w1.heap.size := (by omega); have hzw11 : w.heap.size + 1 < w1.heap.size := (by omega))
    go_ret
    exact ⟨rfl, (by repeat' (first | exact Below.refl _ _ | assumption | apply bDrewN | apply bDrew | apply bAlloc | (refine bSet ?_ ?_ _) | (refine bStep ?_ (by assumption)) | omega | (simp <;> omega)))⟩

end Go.Proofs.Ytngnehlmbipabaa
