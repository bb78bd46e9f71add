/-
  The walks of the functions of numbers of layer 1, and of their kin in the reference: below, fit, up, b2i, Floor, Ceil, Round; Is, den, abs, Down, Up, number, Floor, Ceil, Round.
-/
import Derived.Test.YtngnehlmbipabaaG1Backs
set_option linter.unusedSimpArgs false
set_option linter.unusedVariables false
namespace Go.Proofs.Ytngnehlmbipabaa
open Go.RowKit

def isDen (x : Int) : Bool := decide (1 ≤ x) && decide (x ≤ 1099511627776)
theorem isDen_iff (x : Int) : isDen x = true ↔ 1 ≤ x ∧ x ≤ 1099511627776 := by simp [isDen]
theorem isDen_false (x : Int) : isDen x = false ↔ (x < 1 ∨ 1099511627776 < x) := by
  rw [← Bool.not_eq_true, isDen_iff]; omega

/-- A result, or ErrOver. -/
def fitS (v : Int) : Int × Int := if isQ v = true then (v, 0) else (0, 4)
theorem fitS_yes {v : Int} (h : isQ v = true) : fitS v = (v, 0) := by simp [fitS, h]
theorem fitS_no {v : Int} (h : isQ v = false) : fitS v = (0, 4) := by simp [fitS, h]
/-- What the three functions do with a result. -/
def numS (x n d v : Int) : Int × Int := if isQ x = true ∧ isQ n = true ∧ isDen d = true then fitS v else (0, 2)
/-- x n / d + 1/2, rounded down. -/
def rnd (x n d : Int) : Int :=
  if 0 ≤ sg x * sg n then Pl.dvq x.natAbs n.natAbs d + (if d ≤ 2 * Pl.dvr x.natAbs n.natAbs d then 1 else 0)
  else -(Pl.dvq x.natAbs n.natAbs d + (if d < 2 * Pl.dvr x.natAbs n.natAbs d then 1 else 0))

theorem below_any (x : Int) (w : World) : Calls Try.prog 45 #[.int .i64 x] w fun e w' => e = .returned (.bool (isDen x)) ∧ w = w' := by
  have hq : isDen x = (decide (1 ≤ x) && decide (x ≤ 1099511627776)) := rfl
  rw [hq]; clear hq
  go_enter Try.func45, Try.ntmps45
  go_wp2
  all_goals
    go_ret
    exact ⟨by simp [*] <;> omega, rfl⟩
theorem Is_any (x : Int) (w : World) : Calls Try.prog 42 #[.int .i64 x] w fun e w' => e = .returned (.bool (isQ x)) ∧ w = w' := by
  have hq : isQ x = (decide (-1099511627776 ≤ x) && decide (x ≤ 1099511627776)) := rfl
  rw [hq]; clear hq
  go_enter Try.func42, Try.ntmps42
  go_wp2
  all_goals
    go_ret
    exact ⟨by simp [*] <;> omega, rfl⟩
theorem den_any (x : Int) (w : World) : Calls Try.prog 48 #[.int .i64 x] w fun e w' => e = .returned (.bool (isDen x)) ∧ w = w' := by
  have hq : isDen x = (decide (1 ≤ x) && decide (x ≤ 1099511627776)) := rfl
  rw [hq]; clear hq
  go_enter Try.func48, Try.ntmps48
  go_wp2
  all_goals
    go_ret
    exact ⟨by simp [*] <;> omega, rfl⟩
theorem fit_any (x : Int) (w : World) : Calls Try.prog 75 #[.int .i64 x] w fun e w' => e = .returned (.tuple #[.int .i64 (fitS x).1, .int .i64 (fitS x).2]) ∧ w = w' := by
  cases h : isQ x
  · rw [fitS_no h]
    go_enter Try.func75, Try.ntmps75
    go_wp2_with (go_at_call 39; refine (is_any _ _).mono ?_; rintro e w' ⟨rfl, rfl⟩)
    go_ret2
    exact ⟨rfl, rfl⟩
  · rw [fitS_yes h]
    go_enter Try.func75, Try.ntmps75
    go_wp2_with (go_at_call 39; refine (is_any _ _).mono ?_; rintro e w' ⟨rfl, rfl⟩)
    go_ret2
    exact ⟨rfl, rfl⟩
theorem abs_any (x : Int) (w : World) (h : -9223372036854775807 ≤ x) : Calls Try.prog 81 #[.int .i64 x] w fun e w' => e = .returned (.int .i64 (x.natAbs : Int)) ∧ w = w' := by
  by_cases h0 : x < 0
  · have e : (x.natAbs : Int) = -x := by omega
    rw [e]; clear e
    go_enter Try.func81, Try.ntmps81
    go_wp2
    go_ret
    exact ⟨rfl, rfl⟩
  · have e : (x.natAbs : Int) = x := by omega
    rw [e]; clear e
    go_enter Try.func81, Try.ntmps81
    go_wp2
    go_ret
    exact ⟨rfl, rfl⟩

theorem dn_bd (x n d : Int) (hd : d ≠ 0) : -1152921504606846977 ≤ dn x n d ∧ dn x n d ≤ 1152921504606846976 := by
  have h1 := dvq_bd x.natAbs n.natAbs d.natAbs (by omega) (by omega) (by omega)
  unfold dn
  split
  · omega
  · split <;> omega

theorem up_any (x n d : Int) (w : World) (hx0 : -4398046511104 ≤ x) (hx : x ≤ 4398046511104) (hn0 : -4398046511104 ≤ n) (hn : n ≤ 4398046511104) (hd0 : -4398046511104 ≤ d) (hd : d ≤ 4398046511104) (hdz : d ≠ 0) :
    Calls Try.prog 87 #[.int .i64 x, .int .i64 n, .int .i64 d] w fun e w' => e = .returned (.int .i64 (up x n d)) ∧ ∃ k, w.drewN k = w' := by
  obtain ⟨b1, b2⟩ := dn_bd (-x) n d hdz
  have H := Lib.hid (fun w => down_any (-x) n d w (by omega) (by omega) hn0 hn hd0 hd hdz)
  unfold up
  generalize dn (-x) n d = v at *
  go_enter Try.func87, Try.ntmps87
  go_wp2_with (go_at_call 46; refine (H.out _).mono ?_; rintro e w' ⟨rfl, k, rfl⟩)
  go_ret
  exact ⟨rfl, _, rfl⟩

theorem minus_sg (x n d : Int) : (bne (bne (decide (x < 0)) (decide (n < 0))) (decide (d < 0)) = true → x ≠ 0 → n ≠ 0 → d ≠ 0 → ¬ 0 ≤ sg x * sg n * sg d) ∧ (bne (bne (decide (x < 0)) (decide (n < 0))) (decide (d < 0)) = false → d ≠ 0 → 0 ≤ sg x * sg n * sg d) := by
  unfold sg
  by_cases h1 : x < 0 <;> by_cases h2 : n < 0 <;> by_cases h3 : d < 0 <;> by_cases h4 : 0 < x <;> by_cases h5 : 0 < n <;> by_cases h6 : 0 < d <;> simp [h1, h2, h3, h4, h5, h6] <;> omega

/-- What the reference's Down computes, out of the same parts. -/
def dnR (x n d : Int) : Int :=
  if bne (bne (decide (x < 0)) (decide (n < 0))) (decide (d < 0)) = true then (if 0 < Pl.dvr x.natAbs n.natAbs d.natAbs then -(Pl.dvq x.natAbs n.natAbs d.natAbs + 1) else -(Pl.dvq x.natAbs n.natAbs d.natAbs))
  else Pl.dvq x.natAbs n.natAbs d.natAbs
theorem dnR_eq (x n d : Int) (hd : d ≠ 0) : dnR x n d = dn x n d := by
  have h := minus_sg x n d
  unfold dnR dn
  by_cases hb : bne (bne (decide (x < 0)) (decide (n < 0))) (decide (d < 0)) = true
  · rw [if_pos hb]
    by_cases hx : x = 0
    · subst hx; simp [Pl.dvq, Pl.dvr, sg, Pl.LIM]
    by_cases hn : n = 0
    · subst hn; simp [Pl.dvq, Pl.dvr, sg, Pl.LIM]
    rw [if_neg (h.1 hb hx hn hd)]
  · rw [if_neg hb, if_pos (h.2 (by simpa using hb) hd)]

set_option maxHeartbeats 400000 in
theorem Down_any (x n d : Int) (w : World) (hx0 : -4398046511104 ≤ x) (hx : x ≤ 4398046511104) (hn0 : -4398046511104 ≤ n) (hn : n ≤ 4398046511104) (hd0 : -4398046511104 ≤ d) (hd : d ≤ 4398046511104) (hdz : d ≠ 0) :
    Calls Try.prog 49 #[.int .i64 x, .int .i64 n, .int .i64 d] w fun e w' => e = .returned (.int .i64 (dn x n d)) ∧ ∃ k, w.drewN k = w' := by
  rw [← dnR_eq x n d hdz]
  have hu : dnR x n d = if bne (bne (decide (x < 0)) (decide (n < 0))) (decide (d < 0)) = true then (if 0 < Pl.dvr x.natAbs n.natAbs d.natAbs then -(Pl.dvq x.natAbs n.natAbs d.natAbs + 1) else -(Pl.dvq x.natAbs n.natAbs d.natAbs)) else Pl.dvq x.natAbs n.natAbs d.natAbs := rfl
  rw [hu]; clear hu
  have b1 := dvq_bd x.natAbs n.natAbs d.natAbs (by omega) (by omega) (by omega)
  have b2 := dvr_bd x.natAbs n.natAbs d.natAbs (by omega)
  have H := Lib.hid (fun w => whole_any (x.natAbs : Int) (n.natAbs : Int) (d.natAbs : Int) w (by omega) (by omega) (by omega) (by omega) (by omega) (by omega))
  generalize Pl.dvq x.natAbs n.natAbs d.natAbs = q at *
  generalize Pl.dvr x.natAbs n.natAbs d.natAbs = r at *
  obtain ⟨c1, c2⟩ := b1
  obtain ⟨c3, c4⟩ := b2
  have a1 : -9223372036854775807 ≤ x := by omega
  have a2 : -9223372036854775807 ≤ n := by omega
  have a3 : -9223372036854775807 ≤ d := by omega
  cases h1 : decide (x < 0) <;> cases h2 : decide (n < 0) <;> cases h3 : decide (d < 0)
  all_goals
    simp only [bne_self_eq_false, Bool.bne_false, Bool.bne_true, Bool.not_true, Bool.not_false, reduceIte, Bool.false_eq_true]
    go_enter Try.func49, Try.ntmps49
    go_wp2_with (first
      | (go_at_call 81; refine (abs_any _ _ (by assumption)).mono ?_; rintro e w' ⟨rfl, rfl⟩)
      | (go_at_call 80; refine (H.out _).mono ?_; rintro e w' ⟨rfl, k, rfl⟩))
    all_goals
      go_ret
      exact ⟨by simp [*], _, rfl⟩

/-- The argument checks of the functions of numbers fail. -/
theorem numS_no {x n d v : Int} (h : ¬ (isQ x = true ∧ isQ n = true ∧ isDen d = true)) : numS x n d v = (0, 2) := if_neg h
theorem numS_yes {x n d v : Int} (h1 : isQ x = true) (h2 : isQ n = true) (h3 : isDen d = true) : numS x n d v = fitS v := if_pos ⟨h1, h2, h3⟩

theorem numS_n1 {x n d v : Int} (h : isQ x = false) : numS x n d v = (0, 2) := by simp [numS, h]
theorem numS_n2 {x n d v : Int} (h : isQ n = false) : numS x n d v = (0, 2) := by simp [numS, h]
theorem numS_n3 {x n d v : Int} (h : isDen d = false) : numS x n d v = (0, 2) := by simp [numS, h]

set_option maxHeartbeats 400000 in
theorem Floor_any (x n d : Int) (w : World) : Calls Try.prog 37 #[.int .i64 x, .int .i64 n, .int .i64 d] w fun e w' => e = .returned (.tuple #[.int .i64 (numS x n d (dn x n d)).1, .int .i64 (numS x n d (dn x n d)).2]) ∧ ∃ k, w.drewN k = w' := by
  cases h1 : isQ x
  · rw [numS_n1 h1]
    go_enter Try.func37, Try.ntmps37
    go_wp2_with (first | (go_at_call 39; refine (is_any _ _).mono ?_; rintro e w' ⟨rfl, rfl⟩) | (go_at_call 45; refine (below_any _ _).mono ?_; rintro e w' ⟨rfl, rfl⟩))
    go_ret2
    exact ⟨rfl, 0, rfl⟩
  cases h2 : isQ n
  · rw [numS_n2 h2]
    go_enter Try.func37, Try.ntmps37
    go_wp2_with (first | (go_at_call 39; refine (is_any _ _).mono ?_; rintro e w' ⟨rfl, rfl⟩) | (go_at_call 45; refine (below_any _ _).mono ?_; rintro e w' ⟨rfl, rfl⟩))
    go_ret2
    exact ⟨rfl, 0, rfl⟩
  cases h3 : isDen d
  · rw [numS_n3 h3]
    go_enter Try.func37, Try.ntmps37
    go_wp2_with (first | (go_at_call 39; refine (is_any _ _).mono ?_; rintro e w' ⟨rfl, rfl⟩) | (go_at_call 45; refine (below_any _ _).mono ?_; rintro e w' ⟨rfl, rfl⟩))
    go_ret2
    exact ⟨rfl, 0, rfl⟩
  rw [numS_yes h1 h2 h3]
  obtain ⟨q1, q2⟩ := (isQ_iff _).1 h1
  obtain ⟨q3, q4⟩ := (isQ_iff _).1 h2
  obtain ⟨q5, q6⟩ := (isDen_iff _).1 h3
  have H := Lib.hid (fun w => down_any x n d w (by omega) (by omega) (by omega) (by omega) (by omega) (by omega) (by omega))
  clear q1 q2 q3 q4 q5 q6
  generalize dn x n d = v at *
  go_enter Try.func37, Try.ntmps37
  go_wp2_with (first | (go_at_call 39; refine (is_any _ _).mono ?_; rintro e w' ⟨rfl, rfl⟩) | (go_at_call 45; refine (below_any _ _).mono ?_; rintro e w' ⟨rfl, rfl⟩) | (go_at_call 46; refine (H.out _).mono ?_; rintro e w' ⟨rfl, k, rfl⟩) | (go_at_call 75; refine (fit_any _ _).mono ?_; rintro e w' ⟨rfl, rfl⟩))
  go_ret2
  exact ⟨rfl, _, rfl⟩

end Go.Proofs.Ytngnehlmbipabaa

/-
  The walks of valid: the closure over one span, slices.IndexFunc and slices.ContainsFunc over a row of spans, valid itself.
-/
set_option linter.unusedSimpArgs false
set_option linter.unusedVariables false
namespace Go.Proofs.Ytngnehlmbipabaa
open Go.RowKit

/-- A valid span. -/
def okS (s : Int × Int) : Bool := isQ s.1 && isQ s.2 && decide (s.1 ≤ s.2)
theorem okS_iff (s : Int × Int) : okS s = true ↔ (isQ s.1 = true ∧ isQ s.2 = true ∧ s.1 ≤ s.2) := by simp [okS, and_assoc]
theorem okS_bd {s : Int × Int} (h : okS s = true) : -1099511627776 ≤ s.1 ∧ s.1 ≤ s.2 ∧ s.2 ≤ 1099511627776 := by
  obtain ⟨h1, h2, h3⟩ := (okS_iff s).1 h
  have := (isQ_iff _).1 h1
  have := (isQ_iff _).1 h2
  omega
theorem okS_mk {a b : Int} (h1 : -1099511627776 ≤ a) (h2 : a ≤ b) (h3 : b ≤ 1099511627776) : okS (a, b) = true :=
  (okS_iff _).2 ⟨(isQ_iff _).2 (by dsimp only; omega), (isQ_iff _).2 (by dsimp only; omega), h2⟩

set_option maxHeartbeats 400000 in
theorem valid1_any (a b : Int) (w : World) : Calls Try.prog 85 #[.agg #[.int .i64 a, .int .i64 b]] w fun e w' => e = .returned (.bool (!okS (a, b))) ∧ Below w.heap.size w w' := by
  have hq : okS (a, b) = (isQ a && isQ b && !decide (b < a)) := by
    unfold okS
    congr 1
    rw [Bool.eq_iff_iff]; simp
  rw [hq]; clear hq
  cases h1 : isQ a <;> cases h2 : isQ b <;> cases h3 : decide (b < a)
  all_goals
    go_enter Try.func85, Try.ntmps85
    go_wp2_with (go_at_call 39; refine (is_any _ _).mono ?_; rintro e w' ⟨rfl, rfl⟩)
    go_ret
    exact ⟨rfl, (by repeat' (first | exact Below.refl _ _ | assumption | apply bDrewN | apply bDrew | apply bAlloc | (refine bSet ?_ ?_ _) | (refine bStep ?_ (by assumption)) | omega | (simp <;> omega)))⟩

/-- A row of spans in memory. -/
def SpanCells (w : World) (b off : Nat) (l : List (Int × Int)) : Prop :=
  b < w.heap.size ∧ ∀ j, j < l.length → w.cell? ⟨b, off + j * 2, none⟩ = some (.int .i64 (l.getD j (0, 0)).1) ∧ w.cell? ⟨b, off + j * 2 + 1, none⟩ = some (.int .i64 (l.getD j (0, 0)).2)

set_option maxHeartbeats 400000 in
theorem indexFunc_spans (l : List (Int × Int)) (b off c : Nat) (w : World) (hl : l.length ≤ 9223372036854775807) (hc : SpanCells w b off l) :
    Calls Try.prog 88 #[.slice (some ⟨b, off, none⟩) l.length c, .func (.func 85) #[] #[]] w fun e w' => (∃ r : Int, e = .returned (.int .i64 r) ∧ (decide (0 ≤ r) = !(l.all okS))) ∧ Below w.heap.size w w' := by
  obtain ⟨hb, hc⟩ := hc
  go_enter Try.func88, Try.ntmps88
  go_wp2
  go_loopw [8] (fun i wr => ∃ k : Nat, k ≤ l.length ∧ i = .int .i64 k ∧ Below w.heap.size w wr ∧ Hid ((l.take k).all okS = true)) (fun i _ => l.length - (intOf i).toNat)
  case atStart => exact ⟨0, by omega, rfl, Below.refl _ _, by simp [Hid]⟩
  case round =>
    obtain ⟨k, hk, rfl, hB, HQ⟩ := hrel
    by_cases hlt : k < l.length
    · obtain ⟨g1, g2⟩ := hc k hlt
      rw [← hB.cell (p := ⟨b, off + k * 2, none⟩) hb] at g1
      rw [← hB.cell (p := ⟨b, off + k * 2 + 1, none⟩) hb] at g2
      clear hc
      go_wp2_with (go_at_call 85; refine (valid1_any _ _ _).mono ?_; rintro e w' ⟨rfl, hb1⟩)
      · go_ret
        refine ⟨⟨k, rfl, ?_⟩, (by repeat' (first | exact Below.refl _ _ | assumption | apply bDrewN | apply bDrew | apply bAlloc | (refine bSet ?_ ?_ _) | (refine bStep ?_ (by assumption)) | omega | (simp <;> omega)))⟩
        have hf : okS (l[k].fst, l[k].snd) = false := by simpa using ‹(!okS (l[k].fst, l[k].snd)) = true›
        have : l.all okS = false := by
          rw [List.all_eq_false]
          exact ⟨l[k], List.getElem_mem _, by simp [hf]⟩
        simp [this]
      · have hf : okS (l[k].fst, l[k].snd) = true := by simpa using ‹(!okS (l[k].fst, l[k].snd)) = false›
        go_roundw
        case rel =>
          refine ⟨k + 1, by omega, by go_num, (by repeat' (first | exact Below.refl _ _ | assumption | apply bDrewN | apply bDrew | apply bAlloc | (refine bSet ?_ ?_ _) | (refine bStep ?_ (by assumption)) | omega | (simp <;> omega))), ?_⟩
          rw [Hid, List.take_succ_eq_append_getElem hlt, List.all_append, HQ.out]
          simp [hf]
        case measure => simp [intOf]; omega
    · go_wp2
      go_ret
      obtain rfl : k = l.length := by omega
      have := HQ.out
      rw [List.take_length] at this
      exact ⟨⟨-1, rfl, by simp [this]⟩, (by repeat' (first | exact Below.refl _ _ | assumption | apply bDrewN | apply bDrew | apply bAlloc | (refine bSet ?_ ?_ _) | (refine bStep ?_ (by assumption)) | omega | (simp <;> omega)))⟩

set_option maxHeartbeats 400000 in
theorem indexFunc_spans_nil (a : Option Addr) (c : Nat) (w : World) :
    Calls Try.prog 88 #[.slice a 0 c, .func (.func 85) #[] #[]] w fun e w' => (e = .returned (.int .i64 (-1))) ∧ w = w' := by
  go_enter Try.func88, Try.ntmps88
  go_wp2
  refine wp_loop_once ?_
  go_wp2
  go_ret
  exact ⟨rfl, rfl⟩

set_option maxHeartbeats 400000 in
theorem containsFunc_spans (l : List (Int × Int)) (b off c : Nat) (w : World) (hl : l.length ≤ 9223372036854775807) (hc : SpanCells w b off l) :
    Calls Try.prog 84 #[.slice (some ⟨b, off, none⟩) l.length c, .func (.func 85) #[] #[]] w fun e w' => e = .returned (.bool (!(l.all okS))) ∧ Below w.heap.size w w' := by
  have H := Lib.hid (fun w hc => indexFunc_spans l b off c w hl hc)
  have Hc := Lib.hid hc
  clear hc
  go_enter Try.func84, Try.ntmps84
  go_wp2_with (go_at_call 88; refine (H.out _ Hc.out).mono ?_; rintro e w' ⟨⟨r, rfl, hr⟩, hb⟩)
  go_ret
  exact ⟨by simp [hr], (by repeat' (first | exact Below.refl _ _ | assumption | apply bDrewN | apply bDrew | apply bAlloc | (refine bSet ?_ ?_ _) | (refine bStep ?_ (by assumption)) | omega | (simp <;> omega)))⟩

set_option maxHeartbeats 400000 in
theorem containsFunc_spans_nil (a : Option Addr) (c : Nat) (w : World) :
    Calls Try.prog 84 #[.slice a 0 c, .func (.func 85) #[] #[]] w fun e w' => e = .returned (.bool false) ∧ w = w' := by
  go_enter Try.func84, Try.ntmps84
  go_wp2_with (go_at_call 88; refine (indexFunc_spans_nil _ _ _).mono ?_; rintro e w' ⟨rfl, rfl⟩)
  go_ret
  exact ⟨rfl, rfl⟩

set_option maxHeartbeats 400000 in
theorem valid_any (l : List (Int × Int)) (b off c : Nat) (w : World) (hl : l.length ≤ 9223372036854775807) (hc : SpanCells w b off l) :
    Calls Try.prog 54 #[.slice (some ⟨b, off, none⟩) l.length c] w fun e w' => e = .returned (.bool (l.all okS)) ∧ Below w.heap.size w w' := by
  have H := Lib.hid (fun w hc => containsFunc_spans l b off c w hl hc)
  have Hc := Lib.hid hc
  clear hc
  go_enter Try.func54, Try.ntmps54
  go_wp2_with (go_at_call 84; refine (H.out _ Hc.out).mono ?_; rintro e w' ⟨rfl, hb⟩)
  go_ret
  exact ⟨by simp, (by repeat' (first | exact Below.refl _ _ | assumption | apply bDrewN | apply bDrew | apply bAlloc | (refine bSet ?_ ?_ _) | (refine bStep ?_ (by assumption)) | omega | (simp <;> omega)))⟩

set_option maxHeartbeats 400000 in
theorem valid_nil (a : Option Addr) (c : Nat) (w : World) :
    Calls Try.prog 54 #[.slice a 0 c] w fun e w' => e = .returned (.bool true) ∧ w = w' := by
  go_enter Try.func54, Try.ntmps54
  go_wp2_with (go_at_call 84; refine (containsFunc_spans_nil _ _ _).mono ?_; rintro e w' ⟨rfl, rfl⟩)
  go_ret
  exact ⟨rfl, rfl⟩

/-! A row of one span, or of two, that the caller has just built. -/
theorem spanCells_one {w : World} {b off : Nat} {x y : Int} (hb : b < w.heap.size) (h0 : w.cell? ⟨b, off, none⟩ = some (.int .i64 x)) (h1 : w.cell? ⟨b, off + 1, none⟩ = some (.int .i64 y)) :
    SpanCells w b off [(x, y)] := ⟨hb, fun j hj => by
      have : j = 0 := by simpa using hj
      subst this
      exact ⟨by simpa using h0, by simpa using h1⟩⟩
theorem spanCells_two {w : World} {b : Nat} {x y z u : Int} (hb : b < w.heap.size) (h0 : w.cell? ⟨b, 0, none⟩ = some (.int .i64 x)) (h1 : w.cell? ⟨b, 1, none⟩ = some (.int .i64 y))
    (h2 : w.cell? ⟨b, 2, none⟩ = some (.int .i64 z)) (h3 : w.cell? ⟨b, 3, none⟩ = some (.int .i64 u)) :
    SpanCells w b 0 [(x, y), (z, u)] := ⟨hb, fun j hj => by
      have : j = 0 ∨ j = 1 := by simp at hj; omega
      rcases this with rfl | rfl
      · exact ⟨by simpa using h0, by simpa using h1⟩
      · exact ⟨by simpa using h2, by simpa using h3⟩⟩
/-- valid of one span. -/
theorem valid_one (x y : Int) (b c : Nat) (w : World) (hb : b < w.heap.size) (h0 : w.cell? ⟨b, 0, none⟩ = some (.int .i64 x)) (h1 : w.cell? ⟨b, 1, none⟩ = some (.int .i64 y)) :
    Calls Try.prog 54 #[.slice (some ⟨b, 0, none⟩) 1 c] w fun e w' => e = .returned (.bool (okS (x, y))) ∧ Below w.heap.size w w' :=
  (valid_any [(x, y)] b 0 c w (by simp) (spanCells_one hb h0 (by simpa using h1))).mono fun _ _ ⟨he, h⟩ => ⟨by simpa using he, h⟩
theorem valid_two (x y z u : Int) (b c : Nat) (w : World) (hb : b < w.heap.size) (h0 : w.cell? ⟨b, 0, none⟩ = some (.int .i64 x)) (h1 : w.cell? ⟨b, 1, none⟩ = some (.int .i64 y))
    (h2 : w.cell? ⟨b, 2, none⟩ = some (.int .i64 z)) (h3 : w.cell? ⟨b, 3, none⟩ = some (.int .i64 u)) :
    Calls Try.prog 54 #[.slice (some ⟨b, 0, none⟩) 2 c] w fun e w' => e = .returned (.bool (okS (x, y) && okS (z, u))) ∧ Below w.heap.size w w' :=
  (valid_any [(x, y), (z, u)] b 0 c w (by simp) (spanCells_two hb h0 h1 h2 h3)).mono fun _ _ ⟨he, h⟩ => ⟨by simpa using he, h⟩

/-! The same where the caller has just built the row: nothing to name. -/
theorem valid_oneN (X : World) (x y : Int) (t : TypeId) (fr : Nat × Nat) (b c : Nat) (hb : b = X.heap.size) :
    Calls Try.prog 54 #[.slice (some ⟨b, 0, none⟩) 1 c] (X.alloc (.cells #[.int .i64 x, .int .i64 y] t fr)) fun e w' => e = .returned (.bool (okS (x, y))) ∧ Below (X.alloc (.cells #[.int .i64 x, .int .i64 y] t fr)).heap.size (X.alloc (.cells #[.int .i64 x, .int .i64 y] t fr)) w' := by
  subst hb
  have h := blk_new X (.cells #[.int .i64 x, .int .i64 y] t fr)
  exact valid_one x y _ c _ (blk_lt h) (blk_cell h rfl) (blk_cell h rfl)
theorem valid_twoN (X : World) (x y z u : Int) (t : TypeId) (fr : Nat × Nat) (b c : Nat) (hb : b = X.heap.size) :
    Calls Try.prog 54 #[.slice (some ⟨b, 0, none⟩) 2 c] (X.alloc (.cells #[.int .i64 x, .int .i64 y, .int .i64 z, .int .i64 u] t fr)) fun e w' => e = .returned (.bool (okS (x, y) && okS (z, u))) ∧
      Below (X.alloc (.cells #[.int .i64 x, .int .i64 y, .int .i64 z, .int .i64 u] t fr)).heap.size (X.alloc (.cells #[.int .i64 x, .int .i64 y, .int .i64 z, .int .i64 u] t fr)) w' := by
  subst hb
  have h := blk_new X (.cells #[.int .i64 x, .int .i64 y, .int .i64 z, .int .i64 u] t fr)
  exact valid_two x y z u _ c _ (blk_lt h) (blk_cell h rfl) (blk_cell h rfl) (blk_cell h rfl) (blk_cell h rfl)

end Go.Proofs.Ytngnehlmbipabaa
