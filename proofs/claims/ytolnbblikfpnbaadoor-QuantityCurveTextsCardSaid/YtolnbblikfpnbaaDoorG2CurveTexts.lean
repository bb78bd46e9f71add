/-
  The walks of the functions of numbers of layer 1, and of their kin in the reference: below, fit, up, b2i, Floor, Ceil, Round; Is, den, abs, Down, Up, number, Floor, Ceil, Round.
-/
import Derived.Test.YtolnbblikfpnbaaDoorG1CurveTexts
import Derived.RangeFuncNested
import Derived.RangeFuncBound
import Derived.RangeFuncCalls
import Derived.RangeFuncLeaves
import Derived.Shelf.Abstract
import Derived.WalkKit
import Derived.OwnWalkIn
import Derived.TacticsInMore
import Derived.LoopNIn
import Derived.LoopIn
set_option linter.unusedSimpArgs false
set_option linter.unusedVariables false
namespace Go.Proofs.YtolnbblikfpnbaaDoor
open Go.RowKit

def isDen (x : Int) : Bool := decide (1 ≤ x) && decide (x ≤ 1099511627776)
theorem isDen_iff (x : Int) : isDen x = true ↔ 1 ≤ x ∧ x ≤ 1099511627776 := by simp [isDen]
theorem isDen_false (x : Int) : isDen x = false ↔ (x < 1 ∨ 1099511627776 < x) := by
  rw [← Bool.not_eq_true, isDen_iff]; omega

/-- A result, or ErrOver. -/
def fitS (v : Int) : Int × Int := if isQ v = true then (v, 0) else (0, 4)
theorem fitS_yes {v : Int} (h : isQ v = true) : fitS v = (v, 0) := by simp [fitS, h]
theorem fitS_no {v : Int} (h : isQ v = false) : fitS v = (0, 4) := by simp [fitS, h]
/-- What the three functions do with a result. -/
def numS (x n d v : Int) : Int × Int := if isQ x = true ∧ isQ n = true ∧ isDen d = true then fitS v else (0, 2)
/-- x n / d + 1/2, rounded down. -/
def rnd (x n d : Int) : Int :=
  if 0 ≤ sg x * sg n then Pl.dvq x.natAbs n.natAbs d + (if d ≤ 2 * Pl.dvr x.natAbs n.natAbs d then 1 else 0)
  else -(Pl.dvq x.natAbs n.natAbs d + (if d < 2 * Pl.dvr x.natAbs n.natAbs d then 1 else 0))

theorem below_any (x : Int) (w : World) : Calls Tryd.prog 31 #[.int .i64 x] w fun e w' => e = .returned (.bool (isDen x)) ∧ w = w' := by
  have hq : isDen x = (decide (1 ≤ x) && decide (x ≤ 1099511627776)) := rfl
  rw [hq]; clear hq
  go_enter Tryd.func31, Tryd.ntmps31
  go_wp2
  all_goals
    go_ret
    exact ⟨by simp [*] <;> omega, rfl⟩
theorem Is_any (x : Int) (w : World) : Calls Tryd.prog 39 #[.int .i64 x] w fun e w' => e = .returned (.bool (isQ x)) ∧ w = w' := by
  have hq : isQ x = (decide (-1099511627776 ≤ x) && decide (x ≤ 1099511627776)) := rfl
  rw [hq]; clear hq
  go_enter Tryd.func39, Tryd.ntmps39
  go_wp2
  all_goals
    go_ret
    exact ⟨by simp [*] <;> omega, rfl⟩
theorem fit_any (x : Int) (w : World) : Calls Tryd.prog 32 #[.int .i64 x] w fun e w' => e = .returned (.tuple #[.int .i64 (fitS x).1, .int .i64 (fitS x).2]) ∧ w = w' := by
  cases h : isQ x
  · rw [fitS_no h]
    go_enter Tryd.func32, Tryd.ntmps32
    go_wp2_with (go_at_call 30; refine (is_any _ _).mono ?_; rintro e w' ⟨rfl, rfl⟩)
    go_ret2
    exact ⟨rfl, rfl⟩
  · rw [fitS_yes h]
    go_enter Tryd.func32, Tryd.ntmps32
    go_wp2_with (go_at_call 30; refine (is_any _ _).mono ?_; rintro e w' ⟨rfl, rfl⟩)
    go_ret2
    exact ⟨rfl, rfl⟩
theorem dn_bd (x n d : Int) (hd : d ≠ 0) : -1152921504606846977 ≤ dn x n d ∧ dn x n d ≤ 1152921504606846976 := by
  have h1 := dvq_bd x.natAbs n.natAbs d.natAbs (by omega) (by omega) (by omega)
  unfold dn
  split
  · omega
  · split <;> omega

theorem up_any (x n d : Int) (w : World) (hx0 : -4398046511104 ≤ x) (hx : x ≤ 4398046511104) (hn0 : -4398046511104 ≤ n) (hn : n ≤ 4398046511104) (hd0 : -4398046511104 ≤ d) (hd : d ≤ 4398046511104) (hdz : d ≠ 0) :
    Calls Tryd.prog 51 #[.int .i64 x, .int .i64 n, .int .i64 d] w fun e w' => e = .returned (.int .i64 (up x n d)) ∧ ∃ k, w.drewN k = w' := by
  obtain ⟨b1, b2⟩ := dn_bd (-x) n d hdz
  have H := Lib.hid (fun w => down_any (-x) n d w (by omega) (by omega) hn0 hn hd0 hd hdz)
  unfold up
  generalize dn (-x) n d = v at *
  go_enter Tryd.func51, Tryd.ntmps51
  go_wp2_with (go_at_call 33; refine (H.out _).mono ?_; rintro e w' ⟨rfl, k, rfl⟩)
  go_ret
  exact ⟨rfl, _, rfl⟩

theorem minus_sg (x n d : Int) : (bne (bne (decide (x < 0)) (decide (n < 0))) (decide (d < 0)) = true → x ≠ 0 → n ≠ 0 → d ≠ 0 → ¬ 0 ≤ sg x * sg n * sg d) ∧ (bne (bne (decide (x < 0)) (decide (n < 0))) (decide (d < 0)) = false → d ≠ 0 → 0 ≤ sg x * sg n * sg d) := by
  unfold sg
  by_cases h1 : x < 0 <;> by_cases h2 : n < 0 <;> by_cases h3 : d < 0 <;> by_cases h4 : 0 < x <;> by_cases h5 : 0 < n <;> by_cases h6 : 0 < d <;> simp [h1, h2, h3, h4, h5, h6] <;> omega

/-- What the reference's Down computes, out of the same parts. -/
def dnR (x n d : Int) : Int :=
  if bne (bne (decide (x < 0)) (decide (n < 0))) (decide (d < 0)) = true then (if 0 < Pl.dvr x.natAbs n.natAbs d.natAbs then -(Pl.dvq x.natAbs n.natAbs d.natAbs + 1) else -(Pl.dvq x.natAbs n.natAbs d.natAbs))
  else Pl.dvq x.natAbs n.natAbs d.natAbs
theorem dnR_eq (x n d : Int) (hd : d ≠ 0) : dnR x n d = dn x n d := by
  have h := minus_sg x n d
  unfold dnR dn
  by_cases hb : bne (bne (decide (x < 0)) (decide (n < 0))) (decide (d < 0)) = true
  · rw [if_pos hb]
    by_cases hx : x = 0
    · subst hx; simp [Pl.dvq, Pl.dvr, sg, Pl.LIM]
    by_cases hn : n = 0
    · subst hn; simp [Pl.dvq, Pl.dvr, sg, Pl.LIM]
    rw [if_neg (h.1 hb hx hn hd)]
  · rw [if_neg hb, if_pos (h.2 (by simpa using hb) hd)]

/-- The argument checks of the functions of numbers fail. -/
theorem numS_no {x n d v : Int} (h : ¬ (isQ x = true ∧ isQ n = true ∧ isDen d = true)) : numS x n d v = (0, 2) := if_neg h
theorem numS_yes {x n d v : Int} (h1 : isQ x = true) (h2 : isQ n = true) (h3 : isDen d = true) : numS x n d v = fitS v := if_pos ⟨h1, h2, h3⟩

theorem numS_n1 {x n d v : Int} (h : isQ x = false) : numS x n d v = (0, 2) := by simp [numS, h]
theorem numS_n2 {x n d v : Int} (h : isQ n = false) : numS x n d v = (0, 2) := by simp [numS, h]
theorem numS_n3 {x n d v : Int} (h : isDen d = false) : numS x n d v = (0, 2) := by simp [numS, h]

set_option maxHeartbeats 400000 in
theorem Floor_any (x n d : Int) (w : World) : Calls Tryd.prog 15 #[.int .i64 x, .int .i64 n, .int .i64 d] w fun e w' => e = .returned (.tuple #[.int .i64 (numS x n d (dn x n d)).1, .int .i64 (numS x n d (dn x n d)).2]) ∧ ∃ k, w.drewN k = w' := by
  cases h1 : isQ x
  · rw [numS_n1 h1]
    go_enter Tryd.func15, Tryd.ntmps15
    go_wp2_with (first | (go_at_call 30; refine (is_any _ _).mono ?_; rintro e w' ⟨rfl, rfl⟩) | (go_at_call 31; refine (below_any _ _).mono ?_; rintro e w' ⟨rfl, rfl⟩))
    go_ret2
    exact ⟨rfl, 0, rfl⟩
  cases h2 : isQ n
  · rw [numS_n2 h2]
    go_enter Tryd.func15, Tryd.ntmps15
    go_wp2_with (first | (go_at_call 30; refine (is_any _ _).mono ?_; rintro e w' ⟨rfl, rfl⟩) | (go_at_call 31; refine (below_any _ _).mono ?_; rintro e w' ⟨rfl, rfl⟩))
    go_ret2
    exact ⟨rfl, 0, rfl⟩
  cases h3 : isDen d
  · rw [numS_n3 h3]
    go_enter Tryd.func15, Tryd.ntmps15
    go_wp2_with (first | (go_at_call 30; refine (is_any _ _).mono ?_; rintro e w' ⟨rfl, rfl⟩) | (go_at_call 31; refine (below_any _ _).mono ?_; rintro e w' ⟨rfl, rfl⟩))
    go_ret2
    exact ⟨rfl, 0, rfl⟩
  rw [numS_yes h1 h2 h3]
  obtain ⟨q1, q2⟩ := (isQ_iff _).1 h1
  obtain ⟨q3, q4⟩ := (isQ_iff _).1 h2
  obtain ⟨q5, q6⟩ := (isDen_iff _).1 h3
  have H := Lib.hid (fun w => down_any x n d w (by omega) (by omega) (by omega) (by omega) (by omega) (by omega) (by omega))
  clear q1 q2 q3 q4 q5 q6
  generalize dn x n d = v at *
  go_enter Tryd.func15, Tryd.ntmps15
  go_wp2_with (first | (go_at_call 30; refine (is_any _ _).mono ?_; rintro e w' ⟨rfl, rfl⟩) | (go_at_call 31; refine (below_any _ _).mono ?_; rintro e w' ⟨rfl, rfl⟩) | (go_at_call 33; refine (H.out _).mono ?_; rintro e w' ⟨rfl, k, rfl⟩) | (go_at_call 32; refine (fit_any _ _).mono ?_; rintro e w' ⟨rfl, rfl⟩))
  go_ret2
  exact ⟨rfl, _, rfl⟩

end Go.Proofs.YtolnbblikfpnbaaDoor

/-
  The walks of valid: the closure over one span, slices.IndexFunc and slices.ContainsFunc over a row of spans, valid itself.
-/
set_option linter.unusedSimpArgs false
set_option linter.unusedVariables false
namespace Go.Proofs.YtolnbblikfpnbaaDoor
open Go.RowKit

/-- A valid span. -/
def okS (s : Int × Int) : Bool := isQ s.1 && isQ s.2 && decide (s.1 ≤ s.2)
theorem okS_iff (s : Int × Int) : okS s = true ↔ (isQ s.1 = true ∧ isQ s.2 = true ∧ s.1 ≤ s.2) := by simp [okS, and_assoc]
theorem okS_bd {s : Int × Int} (h : okS s = true) : -1099511627776 ≤ s.1 ∧ s.1 ≤ s.2 ∧ s.2 ≤ 1099511627776 := by
  obtain ⟨h1, h2, h3⟩ := (okS_iff s).1 h
  have := (isQ_iff _).1 h1
  have := (isQ_iff _).1 h2
  omega
theorem okS_mk {a b : Int} (h1 : -1099511627776 ≤ a) (h2 : a ≤ b) (h3 : b ≤ 1099511627776) : okS (a, b) = true :=
  (okS_iff _).2 ⟨(isQ_iff _).2 (by dsimp only; omega), (isQ_iff _).2 (by dsimp only; omega), h2⟩

set_option maxHeartbeats 400000 in
theorem valid1_any (a b : Int) (w : World) : Calls Tryd.prog 37 #[.agg #[.int .i64 a, .int .i64 b]] w fun e w' => e = .returned (.bool (!okS (a, b))) ∧ Below w.heap.size w w' := by
  have hq : okS (a, b) = (isQ a && isQ b && !decide (b < a)) := by
    unfold okS
    congr 1
    rw [Bool.eq_iff_iff]; simp
  rw [hq]; clear hq
  cases h1 : isQ a <;> cases h2 : isQ b <;> cases h3 : decide (b < a)
  all_goals
    go_enter Tryd.func37, Tryd.ntmps37
    go_wp2_with (go_at_call 30; refine (is_any _ _).mono ?_; rintro e w' ⟨rfl, rfl⟩)
    go_ret
    exact ⟨rfl, (by repeat' (first | exact Below.refl _ _ | assumption | apply bDrewN | apply bDrew | apply bAlloc | (refine bSet ?_ ?_ _) | (refine bStep ?_ (by assumption)) | omega | (simp <;> omega)))⟩

/-- A row of spans in memory. -/
def SpanCells (w : World) (b off : Nat) (l : List (Int × Int)) : Prop :=
  b < w.heap.size ∧ ∀ j, j < l.length → w.cell? ⟨b, off + j * 2, none⟩ = some (.int .i64 (l.getD j (0, 0)).1) ∧ w.cell? ⟨b, off + j * 2 + 1, none⟩ = some (.int .i64 (l.getD j (0, 0)).2)

set_option maxHeartbeats 400000 in
theorem indexFunc_spans (l : List (Int × Int)) (b off c : Nat) (w : World) (hl : l.length ≤ 9223372036854775807) (hc : SpanCells w b off l) :
    Calls Tryd.prog 52 #[.slice (some ⟨b, off, none⟩) l.length c, .func (.func 37) #[] #[]] w fun e w' => (∃ r : Int, e = .returned (.int .i64 r) ∧ (decide (0 ≤ r) = !(l.all okS))) ∧ Below w.heap.size w w' := by
  obtain ⟨hb, hc⟩ := hc
  go_enter Tryd.func52, Tryd.ntmps52
  go_wp2
  go_loopw [8] (fun i wr => ∃ k : Nat, k ≤ l.length ∧ i = .int .i64 k ∧ Below w.heap.size w wr ∧ Hid ((l.take k).all okS = true)) (fun i _ => l.length - (intOf i).toNat)
  case atStart => exact ⟨0, by omega, rfl, Below.refl _ _, by simp [Hid]⟩
  case round =>
    obtain ⟨k, hk, rfl, hB, HQ⟩ := hrel
    by_cases hlt : k < l.length
    · obtain ⟨g1, g2⟩ := hc k hlt
      rw [← hB.cell (p := ⟨b, off + k * 2, none⟩) hb] at g1
      rw [← hB.cell (p := ⟨b, off + k * 2 + 1, none⟩) hb] at g2
      clear hc
      go_wp2_with (go_at_call 37; refine (valid1_any _ _ _).mono ?_; rintro e w' ⟨rfl, hb1⟩)
      · go_ret
        refine ⟨⟨k, rfl, ?_⟩, (by repeat' (first | exact Below.refl _ _ | assumption | apply bDrewN | apply bDrew | apply bAlloc | (refine bSet ?_ ?_ _) | (refine bStep ?_ (by assumption)) | omega | (simp <;> omega)))⟩
        have hf : okS (l[k].fst, l[k].snd) = false := by simpa using ‹(!okS (l[k].fst, l[k].snd)) = true›
        have : l.all okS = false := by
          rw [List.all_eq_false]
          exact ⟨l[k], List.getElem_mem _, by simp [hf]⟩
        simp [this]
      · have hf : okS (l[k].fst, l[k].snd) = true := by simpa using ‹(!okS (l[k].fst, l[k].snd)) = false›
        go_roundw
        case rel =>
          refine ⟨k + 1, by omega, by go_num, (by repeat' (first | exact Below.refl _ _ | assumption | apply bDrewN | apply bDrew | apply bAlloc | (refine bSet ?_ ?_ _) | (refine bStep ?_ (by assumption)) | omega | (simp <;> omega))), ?_⟩
          rw [Hid, List.take_succ_eq_append_getElem hlt, List.all_append, HQ.out]
          simp [hf]
        case measure => simp [intOf]; omega
    · go_wp2
      go_ret
      obtain rfl : k = l.length := by omega
      have := HQ.out
      rw [List.take_length] at this
      exact ⟨⟨-1, rfl, by simp [this]⟩, (by repeat' (first | exact Below.refl _ _ | assumption | apply bDrewN | apply bDrew | apply bAlloc | (refine bSet ?_ ?_ _) | (refine bStep ?_ (by assumption)) | omega | (simp <;> omega)))⟩

set_option maxHeartbeats 400000 in
theorem indexFunc_spans_nil (a : Option Addr) (c : Nat) (w : World) :
    Calls Tryd.prog 52 #[.slice a 0 c, .func (.func 37) #[] #[]] w fun e w' => (e = .returned (.int .i64 (-1))) ∧ w = w' := by
  go_enter Tryd.func52, Tryd.ntmps52
  go_wp2
  refine wp_loop_once ?_
  go_wp2
  go_ret
  exact ⟨rfl, rfl⟩

set_option maxHeartbeats 400000 in
theorem containsFunc_spans (l : List (Int × Int)) (b off c : Nat) (w : World) (hl : l.length ≤ 9223372036854775807) (hc : SpanCells w b off l) :
    Calls Tryd.prog 36 #[.slice (some ⟨b, off, none⟩) l.length c, .func (.func 37) #[] #[]] w fun e w' => e = .returned (.bool (!(l.all okS))) ∧ Below w.heap.size w w' := by
  have H := Lib.hid (fun w hc => indexFunc_spans l b off c w hl hc)
  have Hc := Lib.hid hc
  clear hc
  go_enter Tryd.func36, Tryd.ntmps36
  go_wp2_with (go_at_call 52; refine (H.out _ Hc.out).mono ?_; rintro e w' ⟨⟨r, rfl, hr⟩, hb⟩)
  go_ret
  exact ⟨by simp [hr], (by repeat' (first | exact Below.refl _ _ | assumption | apply bDrewN | apply bDrew | apply bAlloc | (refine bSet ?_ ?_ _) | (refine bStep ?_ (by assumption)) | omega | (simp <;> omega)))⟩

set_option maxHeartbeats 400000 in
theorem containsFunc_spans_nil (a : Option Addr) (c : Nat) (w : World) :
    Calls Tryd.prog 36 #[.slice a 0 c, .func (.func 37) #[] #[]] w fun e w' => e = .returned (.bool false) ∧ w = w' := by
  go_enter Tryd.func36, Tryd.ntmps36
  go_wp2_with (go_at_call 52; refine (indexFunc_spans_nil _ _ _).mono ?_; rintro e w' ⟨rfl, rfl⟩)
  go_ret
  exact ⟨rfl, rfl⟩

set_option maxHeartbeats 400000 in
theorem valid_any (l : List (Int × Int)) (b off c : Nat) (w : World) (hl : l.length ≤ 9223372036854775807) (hc : SpanCells w b off l) :
    Calls Tryd.prog 18 #[.slice (some ⟨b, off, none⟩) l.length c] w fun e w' => e = .returned (.bool (l.all okS)) ∧ Below w.heap.size w w' := by
  have H := Lib.hid (fun w hc => containsFunc_spans l b off c w hl hc)
  have Hc := Lib.hid hc
  clear hc
  go_enter Tryd.func18, Tryd.ntmps18
  go_wp2_with (go_at_call 36; refine (H.out _ Hc.out).mono ?_; rintro e w' ⟨rfl, hb⟩)
  go_ret
  exact ⟨by simp, (by repeat' (first | exact Below.refl _ _ | assumption | apply bDrewN | apply bDrew | apply bAlloc | (refine bSet ?_ ?_ _) | (refine bStep ?_ (by assumption)) | omega | (simp <;> omega)))⟩

set_option maxHeartbeats 400000 in
theorem valid_nil (a : Option Addr) (c : Nat) (w : World) :
    Calls Tryd.prog 18 #[.slice a 0 c] w fun e w' => e = .returned (.bool true) ∧ w = w' := by
  go_enter Tryd.func18, Tryd.ntmps18
  go_wp2_with (go_at_call 36; refine (containsFunc_spans_nil _ _ _).mono ?_; rintro e w' ⟨rfl, rfl⟩)
  go_ret
  exact ⟨rfl, rfl⟩

/-! A row of one span, or of two, that the caller has just built. -/
theorem spanCells_one {w : World} {b off : Nat} {x y : Int} (hb : b < w.heap.size) (h0 : w.cell? ⟨b, off, none⟩ = some (.int .i64 x)) (h1 : w.cell? ⟨b, off + 1, none⟩ = some (.int .i64 y)) :
    SpanCells w b off [(x, y)] := ⟨hb, fun j hj => by
      have : j = 0 := by simpa using hj
      subst this
      exact ⟨by simpa using h0, by simpa using h1⟩⟩
theorem spanCells_two {w : World} {b : Nat} {x y z u : Int} (hb : b < w.heap.size) (h0 : w.cell? ⟨b, 0, none⟩ = some (.int .i64 x)) (h1 : w.cell? ⟨b, 1, none⟩ = some (.int .i64 y))
    (h2 : w.cell? ⟨b, 2, none⟩ = some (.int .i64 z)) (h3 : w.cell? ⟨b, 3, none⟩ = some (.int .i64 u)) :
    SpanCells w b 0 [(x, y), (z, u)] := ⟨hb, fun j hj => by
      have : j = 0 ∨ j = 1 := by simp at hj; omega
      rcases this with rfl | rfl
      · exact ⟨by simpa using h0, by simpa using h1⟩
      · exact ⟨by simpa using h2, by simpa using h3⟩⟩
/-- valid of one span. -/
theorem valid_one (x y : Int) (b c : Nat) (w : World) (hb : b < w.heap.size) (h0 : w.cell? ⟨b, 0, none⟩ = some (.int .i64 x)) (h1 : w.cell? ⟨b, 1, none⟩ = some (.int .i64 y)) :
    Calls Tryd.prog 18 #[.slice (some ⟨b, 0, none⟩) 1 c] w fun e w' => e = .returned (.bool (okS (x, y))) ∧ Below w.heap.size w w' :=
  (valid_any [(x, y)] b 0 c w (by simp) (spanCells_one hb h0 (by simpa using h1))).mono fun _ _ ⟨he, h⟩ => ⟨by simpa using he, h⟩
theorem valid_two (x y z u : Int) (b c : Nat) (w : World) (hb : b < w.heap.size) (h0 : w.cell? ⟨b, 0, none⟩ = some (.int .i64 x)) (h1 : w.cell? ⟨b, 1, none⟩ = some (.int .i64 y))
    (h2 : w.cell? ⟨b, 2, none⟩ = some (.int .i64 z)) (h3 : w.cell? ⟨b, 3, none⟩ = some (.int .i64 u)) :
    Calls Tryd.prog 18 #[.slice (some ⟨b, 0, none⟩) 2 c] w fun e w' => e = .returned (.bool (okS (x, y) && okS (z, u))) ∧ Below w.heap.size w w' :=
  (valid_any [(x, y), (z, u)] b 0 c w (by simp) (spanCells_two hb h0 h1 h2 h3)).mono fun _ _ ⟨he, h⟩ => ⟨by simpa using he, h⟩

/-! The same where the caller has just built the row: nothing to name. -/
theorem valid_oneN (X : World) (x y : Int) (t : TypeId) (fr : Nat × Nat) (b c : Nat) (hb : b = X.heap.size) :
    Calls Tryd.prog 18 #[.slice (some ⟨b, 0, none⟩) 1 c] (X.alloc (.cells #[.int .i64 x, .int .i64 y] t fr)) fun e w' => e = .returned (.bool (okS (x, y))) ∧ Below (X.alloc (.cells #[.int .i64 x, .int .i64 y] t fr)).heap.size (X.alloc (.cells #[.int .i64 x, .int .i64 y] t fr)) w' := by
  subst hb
  have h := blk_new X (.cells #[.int .i64 x, .int .i64 y] t fr)
  exact valid_one x y _ c _ (blk_lt h) (blk_cell h rfl) (blk_cell h rfl)
theorem valid_twoN (X : World) (x y z u : Int) (t : TypeId) (fr : Nat × Nat) (b c : Nat) (hb : b = X.heap.size) :
    Calls Tryd.prog 18 #[.slice (some ⟨b, 0, none⟩) 2 c] (X.alloc (.cells #[.int .i64 x, .int .i64 y, .int .i64 z, .int .i64 u] t fr)) fun e w' => e = .returned (.bool (okS (x, y) && okS (z, u))) ∧
      Below (X.alloc (.cells #[.int .i64 x, .int .i64 y, .int .i64 z, .int .i64 u] t fr)).heap.size (X.alloc (.cells #[.int .i64 x, .int .i64 y, .int .i64 z, .int .i64 u] t fr)) w' := by
  subst hb
  have h := blk_new X (.cells #[.int .i64 x, .int .i64 y, .int .i64 z, .int .i64 u] t fr)
  exact valid_two x y z u _ c _ (blk_lt h) (blk_cell h rfl) (blk_cell h rfl) (blk_cell h rfl) (blk_cell h rfl)

end Go.Proofs.YtolnbblikfpnbaaDoor

/-
  The walks of ratio and around.
-/
set_option linter.unusedSimpArgs false
set_option linter.unusedVariables false
namespace Go.Proofs.YtolnbblikfpnbaaDoor
open Go.RowKit

set_option maxHeartbeats 400000 in
theorem ratio_any (x n d : Int) (w : World) (hx0 : -4398046511103 ≤ x) (hx : x ≤ 4398046511103) (hn0 : -4398046511104 ≤ n) (hn : n ≤ 4398046511104) (hd0 : -4398046511104 ≤ d) (hd : d ≤ 4398046511104) (hdz : d ≠ 0) :
    Calls Tryd.prog 35 #[.int .i64 x, .int .i64 n, .int .i64 d] w fun e w' => e = .returned (.agg #[.int .i64 (dn x n d), .int .i64 (up x n d)]) ∧ Below w.heap.size w w' := by
  have H := Lib.hid (fun w => down_any x n d w (by omega) (by omega) hn0 hn hd0 hd hdz)
  have K := Lib.hid (fun w => up_any x n d w (by omega) (by omega) hn0 hn hd0 hd hdz)
  generalize dn x n d = v at *
  generalize up x n d = u at *
  go_enter Tryd.func35, Tryd.ntmps35
  go_wp2_with (first | (go_at_call 33; refine (H.out _).mono ?_; rintro e w' ⟨rfl, k, rfl⟩) | (go_at_call 51; refine (K.out _).mono ?_; rintro e w' ⟨rfl, k, rfl⟩))
  exact bodyPost_ret (v := .agg #[.int .i64 v, .int .i64 u]) (by simp [results, Tryd.results35, go_sem]) rfl ⟨rfl, (by repeat' (first | exact Below.refl _ _ | assumption | apply bDrewN | apply bDrew | apply bAlloc | (refine bSet ?_ ?_ _) | (refine bStep ?_ (by assumption)) | omega | (simp <;> omega)))⟩

/-- The least span around a first one and the others. -/
def foldS (s : Int × Int) (l : List (Int × Int)) : Int × Int := l.foldl (fun s e => (min s.1 e.1, max s.2 e.2)) s
/-- A span, or ErrOver. -/
def spanS (s : Int × Int) : (Int × Int) × Int := if isQ s.1 = true ∧ isQ s.2 = true then (s, 0) else ((0, 0), 4)
theorem foldS_snoc (s : Int × Int) (l : List (Int × Int)) (e : Int × Int) : foldS s (l ++ [e]) = (min (foldS s l).1 e.1, max (foldS s l).2 e.2) := by simp [foldS]

theorem spanS_yes {s : Int × Int} (h1 : isQ s.1 = true) (h2 : isQ s.2 = true) : spanS s = (s, 0) := if_pos ⟨h1, h2⟩
theorem spanS_n1 {s : Int × Int} (h : isQ s.1 = false) : spanS s = ((0, 0), 4) := by simp [spanS, h]
theorem spanS_n2 {s : Int × Int} (h : isQ s.2 = false) : spanS s = ((0, 0), 4) := by simp [spanS, h]

set_option maxHeartbeats 400000 in
theorem around_one (x y : Int) (b : Nat) (w : World) (hb : b < w.heap.size) (g1 : w.cell? ⟨b, 0, none⟩ = some (.int .i64 x)) (g2 : w.cell? ⟨b, 1, none⟩ = some (.int .i64 y)) :
    Calls Tryd.prog 34 #[.slice (some ⟨b, 0, none⟩) 1 1] w fun e w' => e = .returned (.tuple #[.agg #[.int .i64 (spanS (x, y)).1.1, .int .i64 (spanS (x, y)).1.2], .int .i64 (spanS (x, y)).2]) ∧ Below w.heap.size w w' := by
  cases h1 : isQ x
  · rw [spanS_n1 h1]
    go_enter Tryd.func34, Tryd.ntmps34
    go_wp2
    refine wp_loop_once ?_
    go_wp2_with (go_at_call 30; refine (is_any _ _).mono ?_; rintro e w' ⟨rfl, rfl⟩)
    exact bodyPost_ret (v := .tuple #[.agg #[.int .i64 0, .int .i64 0], .int .i64 4]) (by simp [results, Tryd.results34, go_sem]) rfl ⟨rfl, (by repeat' (first | exact Below.refl _ _ | assumption | apply bDrewN | apply bDrew | apply bAlloc | (refine bSet ?_ ?_ _) | (refine bStep ?_ (by assumption)) | omega | (simp <;> omega)))⟩
  cases h2 : isQ y
  · rw [spanS_n2 h2]
    go_enter Tryd.func34, Tryd.ntmps34
    go_wp2
    refine wp_loop_once ?_
    go_wp2_with (go_at_call 30; refine (is_any _ _).mono ?_; rintro e w' ⟨rfl, rfl⟩)
    exact bodyPost_ret (v := .tuple #[.agg #[.int .i64 0, .int .i64 0], .int .i64 4]) (by simp [results, Tryd.results34, go_sem]) rfl ⟨rfl, (by repeat' (first | exact Below.refl _ _ | assumption | apply bDrewN | apply bDrew | apply bAlloc | (refine bSet ?_ ?_ _) | (refine bStep ?_ (by assumption)) | omega | (simp <;> omega)))⟩
  rw [spanS_yes h1 h2]
  go_enter Tryd.func34, Tryd.ntmps34
  go_wp2
  refine wp_loop_once ?_
  go_wp2_with (go_at_call 30; refine (is_any _ _).mono ?_; rintro e w' ⟨rfl, rfl⟩)
  exact bodyPost_ret (v := .tuple #[.agg #[.int .i64 x, .int .i64 y], .int .i64 0]) (by simp [results, Tryd.results34, go_sem]) rfl ⟨rfl, (by repeat' (first | exact Below.refl _ _ | assumption | apply bDrewN | apply bDrew | apply bAlloc | (refine bSet ?_ ?_ _) | (refine bStep ?_ (by assumption)) | omega | (simp <;> omega)))⟩

theorem min_if (a b : Int) : min a b = if b < a then b else a := by
  rw [Int.min_def]; split <;> split <;> omega
theorem max_if (a b : Int) : max a b = if a < b then b else a := by
  rw [Int.max_def]; split <;> split <;> omega

set_option maxHeartbeats 1000000 in
theorem around_any (s0 : Int × Int) (l : List (Int × Int)) (m : Nat) (hm : l.length = m + 1) (b : Nat) (w : World) (hl : m < 1000000) (hc : SpanCells w b 0 (s0 :: l)) :
    Calls Tryd.prog 34 #[.slice (some ⟨b, 0, none⟩) (m + 2) (m + 2)] w fun e w' => e = .returned (.tuple #[.agg #[.int .i64 (spanS (foldS s0 l)).1.1, .int .i64 (spanS (foldS s0 l)).1.2], .int .i64 (spanS (foldS s0 l)).2]) ∧ Below w.heap.size w w' := by
  obtain ⟨hb, hc⟩ := hc
  obtain ⟨g1, g2⟩ := hc 0 (by simp)
  simp at g1 g2
  have hc' : ∀ j, j < m + 1 → w.cell? ⟨b, 2 + j * 2, none⟩ = some (.int .i64 (l.getD j (0, 0)).1) ∧ w.cell? ⟨b, 2 + j * 2 + 1, none⟩ = some (.int .i64 (l.getD j (0, 0)).2) := fun j hj => by
    have := hc (j + 1) (by simp; omega)
    have e : 0 + (j + 1) * 2 = 2 + j * 2 := by omega
    rw [e] at this
    simpa using this
  have HC := Lib.hid hc'
  clear hc hc'
  have Hm := Lib.hid hm
  clear hm
  generalize hT : foldS s0 l = T
  have HT := Lib.hid hT
  clear hT
  go_enter Tryd.func34, Tryd.ntmps34
  go_wp2
  go_loopw [13] (fun i wr => ∃ k : Nat, k ≤ m + 1 ∧ i = .int .i64 k ∧ Below w.heap.size w wr ∧ w.heap.size + 1 < wr.heap.size ∧ wr.heap[w.heap.size]? = some (.cells #[.int .i64 0, .int .i64 0] 23 (0, 0))
     ∧ wr.heap[w.heap.size + 1]? = some (.cells #[.int .i64 (foldS s0 (l.take k)).1, .int .i64 (foldS s0 (l.take k)).2] 23 (0, 0))) (fun i _ => m + 1 - (intOf i).toNat)
  case atStart => exact ⟨0, by omega, rfl, (by repeat' (first | exact Below.refl _ _ | assumption | apply bDrewN | apply bDrew | apply bAlloc | (refine bSet ?_ ?_ _) | (refine bStep ?_ (by assumption)) | omega | (simp <;> omega))), by simp, blk_alloc (blk_new _ _), by simpa [foldS] using blk_new (w.alloc _) _⟩
  case round =>
    obtain ⟨k, hk, rfl, hB, hsz, c1, c2⟩ := hrel
    generalize hF : foldS s0 (l.take k) = F at c2
    have d1 : wr.cell? ⟨w.heap.size + 1, 0, none⟩ = some (.int .i64 F.1) := by simp [World.cell?, c2]
    have d2 : wr.cell? ⟨w.heap.size + 1, 1, none⟩ = some (.int .i64 F.2) := by simp [World.cell?, c2]
    have d3 : wr.frozen? ⟨w.heap.size + 1, 0, none⟩ = false := by simp [World.frozen?, c2]
    have d4 : wr.frozen? ⟨w.heap.size + 1, 1, none⟩ = false := by simp [World.frozen?, c2]
    have e1 := blk_cell (o := 0) c1 rfl
    have e2 := blk_cell (o := 1) c1 rfl
    have e3 := blk_free (o := 0) c1
    have e4 := blk_free (o := 1) c1
    have C1 := Lib.hid c1
    have C2 := Lib.hid c2
    have HF := Lib.hid hF
    clear c1 c2 hF
    by_cases hlt : k < m + 1
    · obtain ⟨f1, f2⟩ := HC.out k hlt
      rw [← hB.cell (p := ⟨b, 2 + k * 2, none⟩) hb] at f1
      rw [← hB.cell (p := ⟨b, 2 + k * 2 + 1, none⟩) hb] at f2
      generalize hE : l.getD k (0, 0) = E at f1 f2
      have HE := Lib.hid hE
      clear hE
      go_wp2
      go_region
      go_wp2
      go_roundw
      case rel =>
        have hlen : k < l.length := by rw [Hm.out]; exact hlt
        have e : foldS s0 (l.take (k + 1)) = (min F.1 E.1, max F.2 E.2) := by
          rw [List.take_succ_eq_append_getElem hlen, foldS_snoc, HF.out]
          have : l[k] = E := by rw [← HE.out, List.getD_eq_getElem?_getD, List.getElem?_eq_getElem hlen]; rfl
          rw [this]
        refine ⟨k + 1, by omega, by go_num, (by repeat' (first | exact Below.refl _ _ | assumption | apply bDrewN | apply bDrew | apply bAlloc | (refine bSet ?_ ?_ _) | (refine bStep ?_ (by assumption)) | omega | (simp <;> omega))), by simp; omega, ?_, ?_⟩
        · exact blk_alloc (blk_set_other (blk_set_other C1.out (by simp)) (by simp))
        · rw [e, min_if, max_if]
          exact blk_alloc (blk_set (blk_set C2.out))
      case measure => simp [intOf]; omega
    · obtain rfl : k = m + 1 := by omega
      have hF := HF.out
      rw [List.take_of_length_le (by rw [Hm.out]; omega)] at hF
      rw [HT.out] at hF
      subst hF
      clear HF HT
      cases h1 : isQ T.1
      · skip
        go_wp2_with (go_at_call 30; refine (is_any _ _).mono ?_; rintro e w' ⟨rfl, rfl⟩)
        exact bodyPost_ret (v := .tuple #[.agg #[.int .i64 0, .int .i64 0], .int .i64 4]) (by simp [results, Tryd.results34, go_sem, e1, e2, d1, d2]) rfl ⟨by rw [spanS_n1 h1], (by repeat' (first | exact Below.refl _ _ | assumption | apply bDrewN | apply bDrew | apply bAlloc | (refine bSet ?_ ?_ _) | (refine bStep ?_ (by assumption)) | omega | (simp <;> omega)))⟩
      cases h2 : isQ T.2
      · skip
        go_wp2_with (go_at_call 30; refine (is_any _ _).mono ?_; rintro e w' ⟨rfl, rfl⟩)
        exact bodyPost_ret (v := .tuple #[.agg #[.int .i64 0, .int .i64 0], .int .i64 4]) (by simp [results, Tryd.results34, go_sem, e1, e2, d1, d2]) rfl ⟨by rw [spanS_n2 h2], (by repeat' (first | exact Below.refl _ _ | assumption | apply bDrewN | apply bDrew | apply bAlloc | (refine bSet ?_ ?_ _) | (refine bStep ?_ (by assumption)) | omega | (simp <;> omega)))⟩
      go_wp2_with (go_at_call 30; refine (is_any _ _).mono ?_; rintro e w' ⟨rfl, rfl⟩)
      exact bodyPost_ret (v := .tuple #[.agg #[.int .i64 T.1, .int .i64 T.2], .int .i64 0]) (by simp [results, Tryd.results34, go_sem, e1, e2, d1, d2]) rfl ⟨by rw [spanS_yes h1 h2], (by repeat' (first | exact Below.refl _ _ | assumption | apply bDrewN | apply bDrew | apply bAlloc | (refine bSet ?_ ?_ _) | (refine bStep ?_ (by assumption)) | omega | (simp <;> omega)))⟩

/-! around over a row that the caller has just built. -/
theorem around_oneN (X : World) (x y : Int) (t : TypeId) (fr : Nat × Nat) (b : Nat) (hb : b = X.heap.size) :
    Calls Tryd.prog 34 #[.slice (some ⟨b, 0, none⟩) 1 1] (X.alloc (.cells #[.int .i64 x, .int .i64 y] t fr)) fun e w' => e = .returned (.tuple #[.agg #[.int .i64 (spanS (x, y)).1.1, .int .i64 (spanS (x, y)).1.2], .int .i64 (spanS (x, y)).2]) ∧
      Below (X.alloc (.cells #[.int .i64 x, .int .i64 y] t fr)).heap.size (X.alloc (.cells #[.int .i64 x, .int .i64 y] t fr)) w' := by
  subst hb
  have h := blk_new X (.cells #[.int .i64 x, .int .i64 y] t fr)
  exact around_one x y _ _ (blk_lt h) (blk_cell h rfl) (blk_cell h rfl)
theorem around_twoN (X : World) (x0 y0 x1 y1 : Int) (t : TypeId) (fr : Nat × Nat) (b : Nat) (hb : b = X.heap.size) :
    Calls Tryd.prog 34 #[.slice (some ⟨b, 0, none⟩) 2 2] (X.alloc (.cells #[.int .i64 x0, .int .i64 y0, .int .i64 x1, .int .i64 y1] t fr)) fun e w' => e = .returned (.tuple #[.agg #[.int .i64 (spanS (foldS (x0, y0) [(x1, y1)])).1.1, .int .i64 (spanS (foldS (x0, y0) [(x1, y1)])).1.2], .int .i64 (spanS (foldS (x0, y0) [(x1, y1)])).2]) ∧
      Below (X.alloc (.cells #[.int .i64 x0, .int .i64 y0, .int .i64 x1, .int .i64 y1] t fr)).heap.size (X.alloc (.cells #[.int .i64 x0, .int .i64 y0, .int .i64 x1, .int .i64 y1] t fr)) w' := by
  subst hb
  have h := blk_new X (.cells #[.int .i64 x0, .int .i64 y0, .int .i64 x1, .int .i64 y1] t fr)
  refine around_any (x0, y0) [(x1, y1)] 0 rfl _ _ (by decide) ⟨blk_lt h, fun j hj => ?_⟩
  have hj' : j = 0 ∨ j = 1 := by simp at hj; omega
  rcases hj' with rfl | rfl
  all_goals exact ⟨blk_cell h rfl, blk_cell h rfl⟩
theorem around_threeN (X : World) (x0 y0 x1 y1 x2 y2 : Int) (t : TypeId) (fr : Nat × Nat) (b : Nat) (hb : b = X.heap.size) :
    Calls Tryd.prog 34 #[.slice (some ⟨b, 0, none⟩) 3 3] (X.alloc (.cells #[.int .i64 x0, .int .i64 y0, .int .i64 x1, .int .i64 y1, .int .i64 x2, .int .i64 y2] t fr)) fun e w' => e = .returned (.tuple #[.agg #[.int .i64 (spanS (foldS (x0, y0) [(x1, y1), (x2, y2)])).1.1, .int .i64 (spanS (foldS (x0, y0) [(x1, y1), (x2, y2)])).1.2], .int .i64 (spanS (foldS (x0, y0) [(x1, y1), (x2, y2)])).2]) ∧
      Below (X.alloc (.cells #[.int .i64 x0, .int .i64 y0, .int .i64 x1, .int .i64 y1, .int .i64 x2, .int .i64 y2] t fr)).heap.size (X.alloc (.cells #[.int .i64 x0, .int .i64 y0, .int .i64 x1, .int .i64 y1, .int .i64 x2, .int .i64 y2] t fr)) w' := by
  subst hb
  have h := blk_new X (.cells #[.int .i64 x0, .int .i64 y0, .int .i64 x1, .int .i64 y1, .int .i64 x2, .int .i64 y2] t fr)
  refine around_any (x0, y0) [(x1, y1), (x2, y2)] 1 rfl _ _ (by decide) ⟨blk_lt h, fun j hj => ?_⟩
  have hj' : j = 0 ∨ j = 1 ∨ j = 2 := by simp at hj; omega
  rcases hj' with rfl | rfl | rfl
  all_goals exact ⟨blk_cell h rfl, blk_cell h rfl⟩
theorem around_fourN (X : World) (x0 y0 x1 y1 x2 y2 x3 y3 : Int) (t : TypeId) (fr : Nat × Nat) (b : Nat) (hb : b = X.heap.size) :
    Calls Tryd.prog 34 #[.slice (some ⟨b, 0, none⟩) 4 4] (X.alloc (.cells #[.int .i64 x0, .int .i64 y0, .int .i64 x1, .int .i64 y1, .int .i64 x2, .int .i64 y2, .int .i64 x3, .int .i64 y3] t fr)) fun e w' => e = .returned (.tuple #[.agg #[.int .i64 (spanS (foldS (x0, y0) [(x1, y1), (x2, y2), (x3, y3)])).1.1, .int .i64 (spanS (foldS (x0, y0) [(x1, y1), (x2, y2), (x3, y3)])).1.2], .int .i64 (spanS (foldS (x0, y0) [(x1, y1), (x2, y2), (x3, y3)])).2]) ∧
      Below (X.alloc (.cells #[.int .i64 x0, .int .i64 y0, .int .i64 x1, .int .i64 y1, .int .i64 x2, .int .i64 y2, .int .i64 x3, .int .i64 y3] t fr)).heap.size (X.alloc (.cells #[.int .i64 x0, .int .i64 y0, .int .i64 x1, .int .i64 y1, .int .i64 x2, .int .i64 y2, .int .i64 x3, .int .i64 y3] t fr)) w' := by
  subst hb
  have h := blk_new X (.cells #[.int .i64 x0, .int .i64 y0, .int .i64 x1, .int .i64 y1, .int .i64 x2, .int .i64 y2, .int .i64 x3, .int .i64 y3] t fr)
  refine around_any (x0, y0) [(x1, y1), (x2, y2), (x3, y3)] 2 rfl _ _ (by decide) ⟨blk_lt h, fun j hj => ?_⟩
  have hj' : j = 0 ∨ j = 1 ∨ j = 2 ∨ j = 3 := by simp at hj; omega
  rcases hj' with rfl | rfl | rfl | rfl
  all_goals exact ⟨blk_cell h rfl, blk_cell h rfl⟩

end Go.Proofs.YtolnbblikfpnbaaDoor

/-
  The walks of Meet, Hull, Has, Inside.
-/
set_option linter.unusedSimpArgs false
set_option linter.unusedVariables false
namespace Go.Proofs.YtolnbblikfpnbaaDoor
open Go.RowKit

def E2 : (Int × Int) × Int := ((0, 0), 2)
def meetS (a b : Int × Int) : (Int × Int) × Int :=
  if okS a = true ∧ okS b = true then (if min a.2 b.2 < max a.1 b.1 then ((0, 0), 5) else ((max a.1 b.1, min a.2 b.2), 0)) else E2
theorem meetS_no {a b : Int × Int} (h : (okS a && okS b) = false) : meetS a b = E2 := if_neg (by simpa using h)
theorem meetS_none {a b : Int × Int} (h : (okS a && okS b) = true) (h2 : min a.2 b.2 < max a.1 b.1) : meetS a b = ((0, 0), 5) := by
  unfold meetS; rw [if_pos (by simpa using h), if_pos h2]
theorem meetS_yes {a b : Int × Int} (h : (okS a && okS b) = true) (h2 : ¬ min a.2 b.2 < max a.1 b.1) : meetS a b = ((max a.1 b.1, min a.2 b.2), 0) := by
  unfold meetS; rw [if_pos (by simpa using h), if_neg h2]

def hullS (a b : Int × Int) : (Int × Int) × Int := if okS a = true ∧ okS b = true then ((min a.1 b.1, max a.2 b.2), 0) else E2
theorem hullS_no {a b : Int × Int} (h : (okS a && okS b) = false) : hullS a b = E2 := if_neg (by simpa using h)
theorem hullS_yes {a b : Int × Int} (h : (okS a && okS b) = true) : hullS a b = ((min a.1 b.1, max a.2 b.2), 0) := if_pos (by simpa using h)
theorem hull_span {a b : Int × Int} (h : (okS a && okS b) = true) : spanS (foldS a [b]) = hullS a b := by
  rw [hullS_yes h]
  simp only [Bool.and_eq_true] at h
  have h1 := okS_bd h.1
  have h2 := okS_bd h.2
  refine spanS_yes ((isQ_iff _).2 ?_) ((isQ_iff _).2 ?_) <;> simp only [foldS, List.foldl] <;> omega

def hasS (s : Int × Int) (x : Int) : Bool := okS s && decide (s.1 ≤ x) && decide (x ≤ s.2)
set_option maxHeartbeats 400000 in
theorem Has_any (s : Int × Int) (x : Int) (w : World) :
    Calls Tryd.prog 17 #[.agg #[.int .i64 s.1, .int .i64 s.2], .int .i64 x] w fun e w' => e = .returned (.bool (hasS s x)) ∧ Below w.heap.size w w' := by
  obtain ⟨a1, a2⟩ := s
  unfold hasS
  cases h : okS (a1, a2) <;> cases h2 : decide (a1 ≤ x) <;> cases h3 : decide (x ≤ a2)
  all_goals
    go_enter Tryd.func17, Tryd.ntmps17
    go_wp2_with (go_at_call 18; refine (valid_oneN _ _ _ _ _ _ _ (by simp)).mono ?_; rintro e w1 ⟨rfl, hb⟩; obtain ⟨hcw1, hfw1⟩ := bcell hb; have hzw1 := Below.size hb; (try simp at hzw1); have hzw10 : w.heap.size < w1.heap.size := (by omega); have hzw11 : w.heap.size + 1 < w1.heap.size := (by omega))
    go_ret
    exact ⟨rfl, (by repeat' (first | exact Below.refl _ _ | assumption | apply bDrewN | apply bDrew | apply bAlloc | (refine bSet ?_ ?_ _) | (refine bStep ?_ (by assumption)) | omega | (simp <;> omega)))⟩

def insideS (a b : Int × Int) : Bool := okS a && okS b && decide (b.1 ≤ a.1) && decide (a.2 ≤ b.2)
end Go.Proofs.YtolnbblikfpnbaaDoor

/-
  The walks of Neg, Add, Sub, Grow, Clip, Width, Middle, Check, Point.
-/
set_option linter.unusedSimpArgs false
set_option linter.unusedVariables false
namespace Go.Proofs.YtolnbblikfpnbaaDoor
open Go.RowKit

def negS (s : Int × Int) : (Int × Int) × Int := if okS s = true then ((-s.2, -s.1), 0) else E2
theorem negS_no {s : Int × Int} (h : okS s = false) : negS s = E2 := if_neg (by simp [h])
theorem negS_yes {s : Int × Int} (h : okS s = true) : negS s = ((-s.2, -s.1), 0) := if_pos h
def addS (a b : Int × Int) : (Int × Int) × Int := if okS a = true ∧ okS b = true then spanS (a.1 + b.1, a.2 + b.2) else E2
theorem addS_no {a b : Int × Int} (h : (okS a && okS b) = false) : addS a b = E2 := if_neg (by simpa using h)
theorem addS_yes {a b : Int × Int} (h : (okS a && okS b) = true) : addS a b = spanS (a.1 + b.1, a.2 + b.2) := if_pos (by simpa using h)
def subS (a b : Int × Int) : (Int × Int) × Int := if okS a = true ∧ okS b = true then spanS (a.1 - b.2, a.2 - b.1) else E2
theorem subS_no {a b : Int × Int} (h : (okS a && okS b) = false) : subS a b = E2 := if_neg (by simpa using h)
theorem subS_yes {a b : Int × Int} (h : (okS a && okS b) = true) : subS a b = spanS (a.1 - b.2, a.2 - b.1) := if_pos (by simpa using h)
def growS (s : Int × Int) (d : Int) : (Int × Int) × Int := if okS s = true ∧ 0 ≤ d ∧ isQ d = true then spanS (s.1 - d, s.2 + d) else E2
def clipS (s : Int × Int) (lo hi : Int) : (Int × Int) × Int := if okS s = true ∧ okS (lo, hi) = true then ((min (max s.1 lo) hi, min (max s.2 lo) hi), 0) else E2
theorem clipS_no {s : Int × Int} {lo hi : Int} (h : (okS s && okS (lo, hi)) = false) : clipS s lo hi = E2 := if_neg (by simpa using h)
theorem clipS_yes {s : Int × Int} {lo hi : Int} (h : (okS s && okS (lo, hi)) = true) : clipS s lo hi = ((min (max s.1 lo) hi, min (max s.2 lo) hi), 0) := if_pos (by simpa using h)
def widthS (s : Int × Int) : Int × Int := if okS s = true then fitS (s.2 - s.1) else (0, 2)
theorem widthS_no {s : Int × Int} (h : okS s = false) : widthS s = (0, 2) := if_neg (by simp [h])
theorem widthS_yes {s : Int × Int} (h : okS s = true) : widthS s = fitS (s.2 - s.1) := if_pos h
def middleS (s : Int × Int) : Int × Int := if okS s = true then ((s.1 + s.2) / 2, 0) else (0, 2)
theorem middleS_no {s : Int × Int} (h : okS s = false) : middleS s = (0, 2) := if_neg (by simp [h])
theorem middleS_yes {s : Int × Int} (h : okS s = true) : middleS s = ((s.1 + s.2) / 2, 0) := if_pos h
def checkS (s : Int × Int) : Int := if okS s = true then 0 else 2
def pointS (x : Int) : (Int × Int) × Int := if isQ x = true then ((x, x), 0) else E2

theorem growS_n1 {s : Int × Int} {d : Int} (h : okS s = false) : growS s d = E2 := by simp [growS, h]
theorem growS_n2 {s : Int × Int} {d : Int} (h : d < 0) : growS s d = E2 := by unfold growS; rw [if_neg (by omega)]
theorem growS_n3 {s : Int × Int} {d : Int} (h : isQ d = false) : growS s d = E2 := by simp [growS, h]
theorem growS_yes {s : Int × Int} {d : Int} (h : okS s = true) (h2 : 0 ≤ d) (h3 : isQ d = true) : growS s d = spanS (s.1 - d, s.2 + d) := if_pos ⟨h, h2, h3⟩

end Go.Proofs.YtolnbblikfpnbaaDoor

/-
  The walk of pieces: the iterator over a curve's pieces.
-/
set_option linter.unusedSimpArgs false
set_option linter.unusedVariables false
namespace Go.Proofs.YtolnbblikfpnbaaDoor
open Go.RowKit Go.Shelf
attribute [local go_sem] Oper.semAt_some

/-- What pieces hands to the loop: the number and the piece. -/
def pcs (xs ys : List Int) (k : Nat) : Array Value := #[.int .i64 k, .agg #[.int .i64 (xs.getD k 0), .int .i64 (ys.getD k 0), .int .i64 (xs.getD (k + 1) 0 - xs.getD k 0), .int .i64 (ys.getD (k + 1) 0 - ys.getD k 0)]]

set_option maxRecDepth 100000 in
set_option maxHeartbeats 8000000 in
theorem pieces1_in (F : Fence) (n : Nat) (hf : F.fn 58) (hro : F.round = none) (hn : 1 ≤ n) (l Bs n₀ bu ou cu bv ov cv len : Nat) (xs ys : List Int) (h2 : 2 ≤ len) (hlen : len ≤ 1000000) (hB : Bs < n₀) (hbu : bu < n₀) (hbv : bv < n₀)
    (hq : ∀ k, -1099511627776 ≤ xs.getD k 0 ∧ xs.getD k 0 ≤ 1099511627776 ∧ -1099511627776 ≤ ys.getD k 0 ∧ ys.getD k 0 ≤ 1099511627776) (J Jx : List Nat → World → Prop)
    (hY : ∀ pre x W, J pre W → pre.length < len - 1 → YieldAt F (n - 1) Tryd.prog l (pcs xs ys x) W fun e W' =>
      (e = .returned (.bool true) ∧ J (pre ++ [x]) W' ∧ Below n₀ W W') ∨ (e = .returned (.bool false) ∧ Jx (pre ++ [x]) W')) (hJd : ∀ pre W, J pre W → J pre W.drew)
    (W : World) (hX : W.cell? ⟨Bs, 0, none⟩ = some (.slice (some ⟨bu, ou, none⟩) len cu)) (hYs : W.cell? ⟨Bs, 1, none⟩ = some (.slice (some ⟨bv, ov, none⟩) len cv))
    (hcx : ∀ k, k < len → W.cell? ⟨bu, ou + k, none⟩ = some (.int .i64 (xs.getD k 0))) (hcy : ∀ k, k < len → W.cell? ⟨bv, ov + k, none⟩ = some (.int .i64 (ys.getD k 0))) (h0 : J [] W) :
    CallsIn F n Tryd.prog 58 #[.func (.yield l) #[] #[], .pointer (some ⟨Bs, 0, none⟩)] W fun e W' => (∃ v, e = .returned v) ∧
      ((∃ zs, zs = List.range (len - 1) ∧ J zs W') ∨ (∃ pre, (∃ k, k ≤ len - 1 ∧ pre = List.range k) ∧ Jx pre W')) := by
  refine callsIn_of_wp Tryd.func58 rfl hf ?_ hro
  simp only [Tryd.ntmps58, List.size_toArray, List.length_cons, List.length_nil, Nat.reduceAdd, Nat.reduceSub, Array.replicate_succ, Array.replicate_zero, List.push_toArray, List.append_toArray, List.nil_append, List.cons_append]
  have e1 : ((len : Int) - 1) = ((len - 1 : Nat) : Int) := by omega
  gi_wp2
  gi_loopw [8] (fun i wr => ∃ k : Nat, k ≤ len - 1 ∧ i = .int .i64 k ∧ J (List.range k) wr ∧ Below n₀ W wr) (fun i _ => len - 1 - (intOf i).toNat)
  case atStart => exact ⟨0, Nat.zero_le _, rfl, h0, Below.refl _ _⟩
  case round =>
    obtain ⟨k, hk, rfl, hJs, hnx⟩ := hrel
    by_cases hlt : k < len - 1
    · obtain ⟨fn, tmps, assign, body, hy, hR⟩ := hY _ k wr.drew (hJd _ _ hJs) (by rw [List.length_range]; exact hlt)
      dsimp only [pcs] at hy
      have c0 := (hnx.cell (p := ⟨Bs, 0, none⟩) hB).trans hX
      have c1 := (hnx.cell (p := ⟨Bs, 1, none⟩) hB).trans hYs
      have c2 := (hnx.cell (p := ⟨bu, ou + k, none⟩) hbu).trans (hcx k (by omega))
      have c3 := (hnx.cell (p := ⟨bv, ov + k, none⟩) hbv).trans (hcy k (by omega))
      have c4 := (hnx.cell (p := ⟨bu, ou + (k + 1), none⟩) hbu).trans (hcx (k + 1) (by omega))
      have c5 := (hnx.cell (p := ⟨bv, ov + (k + 1), none⟩) hbv).trans (hcy (k + 1) (by omega))
      obtain ⟨q1, q2, q3, q4⟩ := hq k
      obtain ⟨q5, q6, q7, q8⟩ := hq (k + 1)
      clear hcx hcy hX hYs hq
      generalize xs.getD k 0 = X0 at *
      generalize ys.getD k 0 = Y0 at *
      generalize xs.getD (k + 1) 0 = X1 at *
      generalize ys.getD (k + 1) 0 = Y1 at *
      have hk1 : k < len := by omega
      have hk2 : k + 1 < len := by omega
      gi_wp2
      refine regionIn_vals 37 [(11, (.func (.yield l) #[] #[])), (12, (.int .i64 k)), (13, (.pointer (some ⟨Bs, 0, none⟩))), (14, (.slice (some ⟨bu, ou, none⟩) len cu)), (15, (.int .i64 k)), (16, (.pointer (some ⟨bu, ou + k, none⟩))), (17, (.int .i64 X0)), (18, (.pointer (some ⟨Bs, 1, none⟩))), (19, (.slice (some ⟨bv, ov, none⟩) len cv)), (20, (.int .i64 k)), (21, (.pointer (some ⟨bv, ov + k, none⟩))), (22, (.int .i64 Y0)), (23, (.pointer (some ⟨Bs, 0, none⟩))), (24, (.slice (some ⟨bu, ou, none⟩) len cu)), (25, (.int .i64 k)), (26, (.int .i64 (k + 1))), (27, (.pointer (some ⟨bu, ou + (k + 1), none⟩))), (28, (.int .i64 X1)), (29, (.pointer (some ⟨Bs, 0, none⟩))), (30, (.slice (some ⟨bu, ou, none⟩) len cu)), (31, (.int .i64 k)), (32, (.pointer (some ⟨bu, ou + k, none⟩))), (33, (.int .i64 X0)), (34, (.int .i64 (X1 - X0))), (35, (.pointer (some ⟨Bs, 1, none⟩))), (36, (.slice (some ⟨bv, ov, none⟩) len cv)), (37, (.int .i64 k)), (38, (.int .i64 (k + 1))), (39, (.pointer (some ⟨bv, ov + (k + 1), none⟩))), (40, (.int .i64 Y1)), (41, (.pointer (some ⟨Bs, 1, none⟩))), (42, (.slice (some ⟨bv, ov, none⟩) len cv)), (43, (.int .i64 k)), (44, (.pointer (some ⟨bv, ov + k, none⟩))), (45, (.int .i64 Y0)), (46, (.int .i64 (Y1 - Y0))), (47, (.agg #[.int .i64 X0, .int .i64 Y0, .int .i64 (X1 - X0), .int .i64 (Y1 - Y0)]))] hro (by kernel_rfl) (by kernel_rfl) rfl (by kernel_rfl) (by kernel_rfl) (by kernel_rfl) (by rfl) ?vals ?tail
      case vals =>
        simp only [updAll, Act.put, List.setIfInBounds_toArray, List.set_cons_zero, List.set_cons_succ, List.take_succ_cons, List.take_zero, AllVals]
        refine ⟨?_, ?_, ?_, ?_, ?_, ?_, ?_, ?_, ?_, ?_, ?_, ?_, ?_, ?_, ?_, ?_, ?_, ?_, ?_, ?_, ?_, ?_, ?_, ?_, ?_, ?_, ?_, ?_, ?_, ?_, ?_, ?_, ?_, ?_, ?_, ?_, ?_, trivial⟩
        all_goals (refine ⟨_, _, rfl, rfl, ?_, ?_⟩ <;> go_simp <;> (first | exact Go.IntWalk.i64_in _ ⟨by omega, by omega⟩ | (intro h; exfalso; omega)))
      case tail =>
        simp only [updAll, Act.put, List.setIfInBounds_toArray, List.set_cons_zero, List.set_cons_succ]
        refine wpOpIn_plain rfl rfl ?_
        gi_wp2
        refine hR.mono ?_
        rintro e W3 (⟨rfl, hJ3, hk3⟩ | ⟨rfl, hJx3⟩)
        · refine wpOpIn_plain rfl rfl ?_
          gi_wp2
          go_roundw
          case rel => exact ⟨k + 1, by omega, by go_num, by rw [List.range_succ]; exact hJ3, hnx.trans ((show Below n₀ wr wr.drew from (Below.refl n₀ wr).drew).trans hk3)⟩
          case measure => (simp [intOf]; omega)
        · refine wpOpIn_plain rfl rfl ?_
          gi_wp2
          refine bodyPost_ret (results_none rfl _ _ _) rfl ?_
          exact ⟨⟨_, rfl⟩, .inr ⟨_, ⟨k + 1, by omega, List.range_succ.symm⟩, hJx3⟩⟩
    · obtain rfl : k = len - 1 := by omega
      gi_wp2
      go_end0
      exact ⟨⟨_, rfl⟩, .inl ⟨_, rfl, hJs⟩⟩

end Go.Proofs.YtolnbblikfpnbaaDoor
