/-
  The walks of valid: the closure over one span, slices.IndexFunc and slices.ContainsFunc over a row of spans, valid itself.
-/
import Derived.Test.YtkldlmbccdfjdaaWc
set_option linter.unusedSimpArgs false
set_option linter.unusedVariables false
namespace Go.Proofs.Ytkldlmbccdfjdaa
open Go.RowKit

/-- A valid span. -/
def okS (s : Int × Int) : Bool := isQ s.1 && isQ s.2 && decide (s.1 ≤ s.2)
theorem okS_iff (s : Int × Int) : okS s = true ↔ (isQ s.1 = true ∧ isQ s.2 = true ∧ s.1 ≤ s.2) := by simp [okS, and_assoc]
theorem okS_bd {s : Int × Int} (h : okS s = true) : -1099511627776 ≤ s.1 ∧ s.1 ≤ s.2 ∧ s.2 ≤ 1099511627776 := by
  obtain ⟨h1, h2, h3⟩ := (okS_iff s).1 h
  have := (isQ_iff _).1 h1
  have := (isQ_iff _).1 h2
  omega
theorem okS_mk {a b : Int} (h1 : -1099511627776 ≤ a) (h2 : a ≤ b) (h3 : b ≤ 1099511627776) : okS (a, b) = true :=
  (okS_iff _).2 ⟨(isQ_iff _).2 (by dsimp only; omega), (isQ_iff _).2 (by dsimp only; omega), h2⟩

set_option maxHeartbeats 400000 in
theorem valid1_any (a b : Int) (w : World) : Calls Try.prog 85 #[.agg #[.int .i64 a, .int .i64 b]] w fun e w' => e = .returned (.bool (!okS (a, b))) ∧ Below w.heap.size w w' := by
  have hq : okS (a, b) = (isQ a && isQ b && !decide (b < a)) := by
    unfold okS
    congr 1
    rw [Bool.eq_iff_iff]; simp
  rw [hq]; clear hq
  cases h1 : isQ a <;> cases h2 : isQ b <;> cases h3 : decide (b < a)
  all_goals
    go_enter Try.func85, Try.ntmps85
    go_wp2_with (go_at_call 39; refine (is_any _ _).mono ?_; rintro e w' ⟨rfl, rfl⟩)
    go_ret
    exact ⟨rfl, (by repeat' (first | exact Below.refl _ _ | assumption | apply bDrewN | apply bDrew | apply bAlloc | (refine bSet ?_ ?_ _) | (refine bStep ?_ (by assumption)) | omega | (simp <;> omega)))⟩

/-- A row of spans in memory. -/
def SpanCells (w : World) (b off : Nat) (l : List (Int × Int)) : Prop :=
  b < w.heap.size ∧ ∀ j, j < l.length → w.cell? ⟨b, off + j * 2, none⟩ = some (.int .i64 (l.getD j (0, 0)).1) ∧ w.cell? ⟨b, off + j * 2 + 1, none⟩ = some (.int .i64 (l.getD j (0, 0)).2)

set_option maxHeartbeats 400000 in
theorem indexFunc_spans (l : List (Int × Int)) (b off c : Nat) (w : World) (hl : l.length ≤ 9223372036854775807) (hc : SpanCells w b off l) :
    Calls Try.prog 88 #[.slice (some ⟨b, off, none⟩) l.length c, .func (.func 85) #[] #[]] w fun e w' => (∃ r : Int, e = .returned (.int .i64 r) ∧ (decide (0 ≤ r) = !(l.all okS))) ∧ Below w.heap.size w w' := by
  obtain ⟨hb, hc⟩ := hc
  go_enter Try.func88, Try.ntmps88
  go_wp2
  go_loopw [8] (fun i wr => ∃ k : Nat, k ≤ l.length ∧ i = .int .i64 k ∧ Below w.heap.size w wr ∧ Hid ((l.take k).all okS = true)) (fun i _ => l.length - (intOf i).toNat)
  case atStart => exact ⟨0, by omega, rfl, Below.refl _ _, by simp [Hid]⟩
  case round =>
    obtain ⟨k, hk, rfl, hB, HQ⟩ := hrel
    by_cases hlt : k < l.length
    · obtain ⟨g1, g2⟩ := hc k hlt
      rw [← hB.cell (p := ⟨b, off + k * 2, none⟩) hb] at g1
      rw [← hB.cell (p := ⟨b, off + k * 2 + 1, none⟩) hb] at g2
      clear hc
      go_wp2_with (go_at_call 85; refine (valid1_any _ _ _).mono ?_; rintro e w' ⟨rfl, hb1⟩)
      · go_ret
        refine ⟨⟨k, rfl, ?_⟩, (by repeat' (first | exact Below.refl _ _ | assumption | apply bDrewN | apply bDrew | apply bAlloc | (refine bSet ?_ ?_ _) | (refine bStep ?_ (by assumption)) | omega | (simp <;> omega)))⟩
        have hf : okS (l[k].fst, l[k].snd) = false := by simpa using ‹(!okS (l[k].fst, l[k].snd)) = true›
        have : l.all okS = false := by
          rw [List.all_eq_false]
          exact ⟨l[k], List.getElem_mem _, by simp [hf]⟩
        simp [this]
      · have hf : okS (l[k].fst, l[k].snd) = true := by simpa using ‹(!okS (l[k].fst, l[k].snd)) = false›
        go_roundw
        case rel =>
          refine ⟨k + 1, by omega, by go_num, (by repeat' (first | exact Below.refl _ _ | assumption | apply bDrewN | apply bDrew | apply bAlloc | (refine bSet ?_ ?_ _) | (refine bStep ?_ (by assumption)) | omega | (simp <;> omega))), ?_⟩
          rw [Hid, List.take_succ_eq_append_getElem hlt, List.all_append, HQ.out]
          simp [hf]
        case measure => simp [intOf]; omega
    · go_wp2
      go_ret
      obtain rfl : k = l.length := by omega
      have := HQ.out
      rw [List.take_length] at this
      exact ⟨⟨-1, rfl, by simp [this]⟩, (by repeat' (first | exact Below.refl _ _ | assumption | apply bDrewN | apply bDrew | apply bAlloc | (refine bSet ?_ ?_ _) | (refine bStep ?_ (by assumption)) | omega | (simp <;> omega)))⟩

set_option maxHeartbeats 400000 in
theorem indexFunc_spans_nil (a : Option Addr) (c : Nat) (w : World) :
    Calls Try.prog 88 #[.slice a 0 c, .func (.func 85) #[] #[]] w fun e w' => (e = .returned (.int .i64 (-1))) ∧ w = w' := by
  go_enter Try.func88, Try.ntmps88
  go_wp2
  refine wp_loop_once ?_
  go_wp2
  go_ret
  exact ⟨rfl, rfl⟩

set_option maxHeartbeats 400000 in
theorem containsFunc_spans (l : List (Int × Int)) (b off c : Nat) (w : World) (hl : l.length ≤ 9223372036854775807) (hc : SpanCells w b off l) :
    Calls Try.prog 84 #[.slice (some ⟨b, off, none⟩) l.length c, .func (.func 85) #[] #[]] w fun e w' => e = .returned (.bool (!(l.all okS))) ∧ Below w.heap.size w w' := by
  have H := Lib.hid (fun w hc => indexFunc_spans l b off c w hl hc)
  have Hc := Lib.hid hc
  clear hc
  go_enter Try.func84, Try.ntmps84
  go_wp2_with (go_at_call 88; refine (H.out _ Hc.out).mono ?_; rintro e w' ⟨⟨r, rfl, hr⟩, hb⟩)
  go_ret
  exact ⟨by simp [hr], (by repeat' (first | exact Below.refl _ _ | assumption | apply bDrewN | apply bDrew | apply bAlloc | (refine bSet ?_ ?_ _) | (refine bStep ?_ (by assumption)) | omega | (simp <;> omega)))⟩

set_option maxHeartbeats 400000 in
theorem containsFunc_spans_nil (a : Option Addr) (c : Nat) (w : World) :
    Calls Try.prog 84 #[.slice a 0 c, .func (.func 85) #[] #[]] w fun e w' => e = .returned (.bool false) ∧ w = w' := by
  go_enter Try.func84, Try.ntmps84
  go_wp2_with (go_at_call 88; refine (indexFunc_spans_nil _ _ _).mono ?_; rintro e w' ⟨rfl, rfl⟩)
  go_ret
  exact ⟨rfl, rfl⟩

set_option maxHeartbeats 400000 in
theorem valid_any (l : List (Int × Int)) (b off c : Nat) (w : World) (hl : l.length ≤ 9223372036854775807) (hc : SpanCells w b off l) :
    Calls Try.prog 54 #[.slice (some ⟨b, off, none⟩) l.length c] w fun e w' => e = .returned (.bool (l.all okS)) ∧ Below w.heap.size w w' := by
  have H := Lib.hid (fun w hc => containsFunc_spans l b off c w hl hc)
  have Hc := Lib.hid hc
  clear hc
  go_enter Try.func54, Try.ntmps54
  go_wp2_with (go_at_call 84; refine (H.out _ Hc.out).mono ?_; rintro e w' ⟨rfl, hb⟩)
  go_ret
  exact ⟨by simp, (by repeat' (first | exact Below.refl _ _ | assumption | apply bDrewN | apply bDrew | apply bAlloc | (refine bSet ?_ ?_ _) | (refine bStep ?_ (by assumption)) | omega | (simp <;> omega)))⟩

set_option maxHeartbeats 400000 in
theorem valid_nil (a : Option Addr) (c : Nat) (w : World) :
    Calls Try.prog 54 #[.slice a 0 c] w fun e w' => e = .returned (.bool true) ∧ w = w' := by
  go_enter Try.func54, Try.ntmps54
  go_wp2_with (go_at_call 84; refine (containsFunc_spans_nil _ _ _).mono ?_; rintro e w' ⟨rfl, rfl⟩)
  go_ret
  exact ⟨rfl, rfl⟩

/-! A row of one span, or of two, that the caller has just built. -/
theorem spanCells_one {w : World} {b off : Nat} {x y : Int} (hb : b < w.heap.size) (h0 : w.cell? ⟨b, off, none⟩ = some (.int .i64 x)) (h1 : w.cell? ⟨b, off + 1, none⟩ = some (.int .i64 y)) :
    SpanCells w b off [(x, y)] := ⟨hb, fun j hj => by
      have : j = 0 := by simpa using hj
      subst this
      exact ⟨by simpa using h0, by simpa using h1⟩⟩
theorem spanCells_two {w : World} {b : Nat} {x y z u : Int} (hb : b < w.heap.size) (h0 : w.cell? ⟨b, 0, none⟩ = some (.int .i64 x)) (h1 : w.cell? ⟨b, 1, none⟩ = some (.int .i64 y))
    (h2 : w.cell? ⟨b, 2, none⟩ = some (.int .i64 z)) (h3 : w.cell? ⟨b, 3, none⟩ = some (.int .i64 u)) :
    SpanCells w b 0 [(x, y), (z, u)] := ⟨hb, fun j hj => by
      have : j = 0 ∨ j = 1 := by simp at hj; omega
      rcases this with rfl | rfl
      · exact ⟨by simpa using h0, by simpa using h1⟩
      · exact ⟨by simpa using h2, by simpa using h3⟩⟩
/-- valid of one span. -/
theorem valid_one (x y : Int) (b c : Nat) (w : World) (hb : b < w.heap.size) (h0 : w.cell? ⟨b, 0, none⟩ = some (.int .i64 x)) (h1 : w.cell? ⟨b, 1, none⟩ = some (.int .i64 y)) :
    Calls Try.prog 54 #[.slice (some ⟨b, 0, none⟩) 1 c] w fun e w' => e = .returned (.bool (okS (x, y))) ∧ Below w.heap.size w w' :=
  (valid_any [(x, y)] b 0 c w (by simp) (spanCells_one hb h0 (by simpa using h1))).mono fun _ _ ⟨he, h⟩ => ⟨by simpa using he, h⟩
theorem valid_two (x y z u : Int) (b c : Nat) (w : World) (hb : b < w.heap.size) (h0 : w.cell? ⟨b, 0, none⟩ = some (.int .i64 x)) (h1 : w.cell? ⟨b, 1, none⟩ = some (.int .i64 y))
    (h2 : w.cell? ⟨b, 2, none⟩ = some (.int .i64 z)) (h3 : w.cell? ⟨b, 3, none⟩ = some (.int .i64 u)) :
    Calls Try.prog 54 #[.slice (some ⟨b, 0, none⟩) 2 c] w fun e w' => e = .returned (.bool (okS (x, y) && okS (z, u))) ∧ Below w.heap.size w w' :=
  (valid_any [(x, y), (z, u)] b 0 c w (by simp) (spanCells_two hb h0 h1 h2 h3)).mono fun _ _ ⟨he, h⟩ => ⟨by simpa using he, h⟩

/-! The same where the caller has just built the row: nothing to name. -/
theorem valid_oneN (X : World) (x y : Int) (t : TypeId) (fr : Nat × Nat) (b c : Nat) (hb : b = X.heap.size) :
    Calls Try.prog 54 #[.slice (some ⟨b, 0, none⟩) 1 c] (X.alloc (.cells #[.int .i64 x, .int .i64 y] t fr)) fun e w' => e = .returned (.bool (okS (x, y))) ∧ Below (X.alloc (.cells #[.int .i64 x, .int .i64 y] t fr)).heap.size (X.alloc (.cells #[.int .i64 x, .int .i64 y] t fr)) w' := by
  subst hb
  have h := blk_new X (.cells #[.int .i64 x, .int .i64 y] t fr)
  exact valid_one x y _ c _ (blk_lt h) (blk_cell h rfl) (blk_cell h rfl)
theorem valid_twoN (X : World) (x y z u : Int) (t : TypeId) (fr : Nat × Nat) (b c : Nat) (hb : b = X.heap.size) :
    Calls Try.prog 54 #[.slice (some ⟨b, 0, none⟩) 2 c] (X.alloc (.cells #[.int .i64 x, .int .i64 y, .int .i64 z, .int .i64 u] t fr)) fun e w' => e = .returned (.bool (okS (x, y) && okS (z, u))) ∧
      Below (X.alloc (.cells #[.int .i64 x, .int .i64 y, .int .i64 z, .int .i64 u] t fr)).heap.size (X.alloc (.cells #[.int .i64 x, .int .i64 y, .int .i64 z, .int .i64 u] t fr)) w' := by
  subst hb
  have h := blk_new X (.cells #[.int .i64 x, .int .i64 y, .int .i64 z, .int .i64 u] t fr)
  exact valid_two x y z u _ c _ (blk_lt h) (blk_cell h rfl) (blk_cell h rfl) (blk_cell h rfl) (blk_cell h rfl)

end Go.Proofs.Ytkldlmbccdfjdaa
