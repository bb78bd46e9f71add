/-
  The walks of the reference's functions of spans (all but corners' users): Valid, span, Neg, Add, Sub, Grow, Meet, Hull, Has, Inside, Width, Middle, Clip, check, Check.
-/
import Derived.Test.YtngnehlmbipabaaG4Backs
import Derived.Test.YtngnehlmbipabaaG5Backs
import Derived.Deep.QuietTactic
set_option linter.unusedSimpArgs false
set_option linter.unusedVariables false
namespace Go.Proofs.Ytngnehlmbipabaa
open Go.RowKit

set_option maxHeartbeats 400000 in
theorem Valid_any (a b : Int) (w : World) : Calls Try.prog 86 #[.agg #[.int .i64 a, .int .i64 b]] w fun e w' => e = .returned (.bool (okS (a, b))) ∧ Below w.heap.size w w' := by
  have hq : okS (a, b) = (isQ a && isQ b && decide (a ≤ b)) := rfl
  rw [hq]; clear hq
  cases h1 : isQ a <;> cases h2 : isQ b <;> cases h3 : decide (a ≤ b)
  all_goals
    go_enter Try.func86, Try.ntmps86
    go_wp2_with (go_at_call 42; refine (Is_any _ _).mono ?_; rintro e w' ⟨rfl, rfl⟩)
    go_ret
    exact ⟨rfl, (by repeat' (first | exact Below.refl _ _ | assumption | apply bDrewN | apply bDrew | apply bAlloc | (refine bSet ?_ ?_ _) | (refine bStep ?_ (by assumption)) | omega | (simp <;> omega)))⟩
theorem neg_span {s : Int × Int} (h : okS s = true) : negS s = spanS (-s.2, -s.1) := by
  rw [negS_yes h]
  obtain ⟨h1, h2, h3⟩ := okS_bd h
  exact (spanS_yes ((isQ_iff _).2 (by dsimp only; omega)) ((isQ_iff _).2 (by dsimp only; omega))).symm

set_option maxHeartbeats 400000 in
theorem RMeet_any (a b : Int × Int) (w : World) : Calls Try.prog 69 #[.agg #[.int .i64 a.1, .int .i64 a.2], .agg #[.int .i64 b.1, .int .i64 b.2]] w fun e w' => e = .returned (.tuple #[.agg #[.int .i64 (meetS a b).1.1, .int .i64 (meetS a b).1.2], .int .i64 (meetS a b).2]) ∧ Below w.heap.size w w' := by
  cases h1 : okS a
  · rw [meetS_no (by simp [h1])]
    obtain ⟨a1, a2⟩ := a
    obtain ⟨b1, b2⟩ := b
    go_enter Try.func69, Try.ntmps69
    go_wp2_with (go_at_call 86; refine (Valid_any _ _ _).mono ?_; rintro e w1 ⟨rfl, hb⟩; obtain ⟨hcw1, hfw1⟩ := bcell hb; have hzw1 := Below.size hb; (try simp at hzw1); have hzw10 : w.heap.size < w1.heap.size := (by omega); have hzw11 : w.heap.size + 1 < w1.heap.size := (by omega); have hzw12 : w.heap.size + 1 + 1 < w1.heap.size := (by omega))
    exact bodyPost_ret (v := .tuple #[.agg #[.int .i64 (0), .int .i64 (0)], .int .i64 2]) (by simp only [results, Try.results69]; go_simp) rfl ⟨rfl, (by repeat' (first | exact Below.refl _ _ | assumption | apply bDrewN | apply bDrew | apply bAlloc | (refine bSet ?_ ?_ _) | (refine bStep ?_ (by assumption)) | omega | (simp <;> omega)))⟩
  cases h2 : okS b
  · rw [meetS_no (by simp [h2])]
    obtain ⟨a1, a2⟩ := a
    obtain ⟨b1, b2⟩ := b
    go_enter Try.func69, Try.ntmps69
    go_wp2_with (go_at_call 86; refine (Valid_any _ _ _).mono ?_; rintro e w1 ⟨rfl, hb⟩; obtain ⟨hcw1, hfw1⟩ := bcell hb; have hzw1 := Below.size hb; (try simp at hzw1); have hzw10 : w.heap.size < w1.heap.size := (by omega); have hzw11 : w.heap.size + 1 < w1.heap.size := (by omega); have hzw12 : w.heap.size + 1 + 1 < w1.heap.size := (by omega))
    exact bodyPost_ret (v := .tuple #[.agg #[.int .i64 (0), .int .i64 (0)], .int .i64 2]) (by simp only [results, Try.results69]; go_simp) rfl ⟨rfl, (by repeat' (first | exact Below.refl _ _ | assumption | apply bDrewN | apply bDrew | apply bAlloc | (refine bSet ?_ ?_ _) | (refine bStep ?_ (by assumption)) | omega | (simp <;> omega)))⟩
  have h : (okS a && okS b) = true := by simp [h1, h2]
  obtain ⟨a1, a2⟩ := a
  obtain ⟨b1, b2⟩ := b
  obtain ⟨M, hM⟩ : ∃ M, max a1 b1 = M := ⟨_, rfl⟩
  obtain ⟨m, hm⟩ : ∃ m, min a2 b2 = m := ⟨_, rfl⟩
  have e1 : (if a1 < b1 then b1 else a1) = M := by rw [← hM, max_if]
  have e2 : (if b2 < a2 then b2 else a2) = m := by rw [← hm, min_if]

  by_cases hlt : m < M
  · rw [meetS_none h (by simpa [hM, hm] using hlt)]
    clear hM hm h
    go_enter Try.func69, Try.ntmps69
    go_wp2_with (go_at_call 86; refine (Valid_any _ _ _).mono ?_; rintro e w1 ⟨rfl, hb⟩; obtain ⟨hcw1, hfw1⟩ := bcell hb; have hzw1 := Below.size hb; (try simp at hzw1); have hzw10 : w.heap.size < w1.heap.size := (by omega); have hzw11 : w.heap.size + 1 < w1.heap.size := (by omega); have hzw12 : w.heap.size + 1 + 1 < w1.heap.size := (by omega))
    exact bodyPost_ret (v := .tuple #[.agg #[.int .i64 (0), .int .i64 (0)], .int .i64 5]) (by simp only [results, Try.results69]; go_simp) rfl ⟨rfl, (by repeat' (first | exact Below.refl _ _ | assumption | apply bDrewN | apply bDrew | apply bAlloc | (refine bSet ?_ ?_ _) | (refine bStep ?_ (by assumption)) | omega | (simp <;> omega)))⟩
  rw [meetS_yes h (by simpa [hM, hm] using hlt)]
  rw [hM, hm]
  clear hM hm h
  go_enter Try.func69, Try.ntmps69
  go_wp2_with (go_at_call 86; refine (Valid_any _ _ _).mono ?_; rintro e w1 ⟨rfl, hb⟩; obtain ⟨hcw1, hfw1⟩ := bcell hb; have hzw1 := Below.size hb; (try simp at hzw1); have hzw10 : w.heap.size < w1.heap.size := (by omega); have hzw11 : w.heap.size + 1 < w1.heap.size := (by omega); have hzw12 : w.heap.size + 1 + 1 < w1.heap.size := (by omega))
  exact bodyPost_ret (v := .tuple #[.agg #[.int .i64 (M), .int .i64 (m)], .int .i64 0]) (by simp only [results, Try.results69]; go_simp) rfl ⟨rfl, (by repeat' (first | exact Below.refl _ _ | assumption | apply bDrewN | apply bDrew | apply bAlloc | (refine bSet ?_ ?_ _) | (refine bStep ?_ (by assumption)) | omega | (simp <;> omega)))⟩

set_option maxHeartbeats 400000 in
theorem RHull_any (a b : Int × Int) (w : World) : Calls Try.prog 71 #[.agg #[.int .i64 a.1, .int .i64 a.2], .agg #[.int .i64 b.1, .int .i64 b.2]] w fun e w' => e = .returned (.tuple #[.agg #[.int .i64 (hullS a b).1.1, .int .i64 (hullS a b).1.2], .int .i64 (hullS a b).2]) ∧ Below w.heap.size w w' := by
  cases h1 : okS a
  · rw [hullS_no (by simp [h1])]
    obtain ⟨a1, a2⟩ := a
    obtain ⟨b1, b2⟩ := b
    go_enter Try.func71, Try.ntmps71
    go_wp2_with (go_at_call 86; refine (Valid_any _ _ _).mono ?_; rintro e w1 ⟨rfl, hb⟩; obtain ⟨hcw1, hfw1⟩ := bcell hb; have hzw1 := Below.size hb; (try simp at hzw1); have hzw10 : w.heap.size < w1.heap.size := (by omega); have hzw11 : w.heap.size + 1 < w1.heap.size := (by omega); have hzw12 : w.heap.size + 1 + 1 < w1.heap.size := (by omega))
    exact bodyPost_ret (v := .tuple #[.agg #[.int .i64 (0), .int .i64 (0)], .int .i64 2]) (by simp only [results, Try.results71]; go_simp) rfl ⟨rfl, (by repeat' (first | exact Below.refl _ _ | assumption | apply bDrewN | apply bDrew | apply bAlloc | (refine bSet ?_ ?_ _) | (refine bStep ?_ (by assumption)) | omega | (simp <;> omega)))⟩
  cases h2 : okS b
  · rw [hullS_no (by simp [h2])]
    obtain ⟨a1, a2⟩ := a
    obtain ⟨b1, b2⟩ := b
    go_enter Try.func71, Try.ntmps71
    go_wp2_with (go_at_call 86; refine (Valid_any _ _ _).mono ?_; rintro e w1 ⟨rfl, hb⟩; obtain ⟨hcw1, hfw1⟩ := bcell hb; have hzw1 := Below.size hb; (try simp at hzw1); have hzw10 : w.heap.size < w1.heap.size := (by omega); have hzw11 : w.heap.size + 1 < w1.heap.size := (by omega); have hzw12 : w.heap.size + 1 + 1 < w1.heap.size := (by omega))
    exact bodyPost_ret (v := .tuple #[.agg #[.int .i64 (0), .int .i64 (0)], .int .i64 2]) (by simp only [results, Try.results71]; go_simp) rfl ⟨rfl, (by repeat' (first | exact Below.refl _ _ | assumption | apply bDrewN | apply bDrew | apply bAlloc | (refine bSet ?_ ?_ _) | (refine bStep ?_ (by assumption)) | omega | (simp <;> omega)))⟩
  have h : (okS a && okS b) = true := by simp [h1, h2]
  obtain ⟨a1, a2⟩ := a
  obtain ⟨b1, b2⟩ := b
  obtain ⟨M, hM⟩ : ∃ M, max a2 b2 = M := ⟨_, rfl⟩
  obtain ⟨m, hm⟩ : ∃ m, min a1 b1 = m := ⟨_, rfl⟩
  have e1 : (if a2 < b2 then b2 else a2) = M := by rw [← hM, max_if]
  have e2 : (if b1 < a1 then b1 else a1) = m := by rw [← hm, min_if]

  rw [hullS_yes h]
  rw [hM, hm]
  clear hM hm h
  go_enter Try.func71, Try.ntmps71
  go_wp2_with (go_at_call 86; refine (Valid_any _ _ _).mono ?_; rintro e w1 ⟨rfl, hb⟩; obtain ⟨hcw1, hfw1⟩ := bcell hb; have hzw1 := Below.size hb; (try simp at hzw1); have hzw10 : w.heap.size < w1.heap.size := (by omega); have hzw11 : w.heap.size + 1 < w1.heap.size := (by omega); have hzw12 : w.heap.size + 1 + 1 < w1.heap.size := (by omega))
  exact bodyPost_ret (v := .tuple #[.agg #[.int .i64 (m), .int .i64 (M)], .int .i64 0]) (by simp only [results, Try.results71]; go_simp) rfl ⟨rfl, (by repeat' (first | exact Below.refl _ _ | assumption | apply bDrewN | apply bDrew | apply bAlloc | (refine bSet ?_ ?_ _) | (refine bStep ?_ (by assumption)) | omega | (simp <;> omega)))⟩

set_option maxHeartbeats 400000 in
theorem RHas_any (s : Int × Int) (x : Int) (w : World) : Calls Try.prog 63 #[.agg #[.int .i64 s.1, .int .i64 s.2], .int .i64 x] w fun e w' => e = .returned (.bool (hasS s x)) ∧ Below w.heap.size w w' := by
  obtain ⟨a1, a2⟩ := s
  unfold hasS
  cases h : okS (a1, a2) <;> cases h2 : decide (a1 ≤ x) <;> cases h3 : decide (x ≤ a2)
  all_goals
    go_enter Try.func63, Try.ntmps63
    go_wp2_with (go_at_call 86; refine (Valid_any _ _ _).mono ?_; rintro e w1 ⟨rfl, hb⟩; obtain ⟨hcw1, hfw1⟩ := bcell hb; have hzw1 := Below.size hb; (try simp at hzw1); have hzw10 : w.heap.size < w1.heap.size := (by omega))
    go_ret
    exact ⟨rfl, (by repeat' (first | exact Below.refl _ _ | assumption | apply bDrewN | apply bDrew | apply bAlloc | (refine bSet ?_ ?_ _) | (refine bStep ?_ (by assumption)) | omega | (simp <;> omega)))⟩
set_option maxHeartbeats 800000 in
theorem RInside_any (a b : Int × Int) (w : World) : Calls Try.prog 65 #[.agg #[.int .i64 a.1, .int .i64 a.2], .agg #[.int .i64 b.1, .int .i64 b.2]] w fun e w' => e = .returned (.bool (insideS a b)) ∧ Below w.heap.size w w' := by
  obtain ⟨a1, a2⟩ := a
  obtain ⟨b1, b2⟩ := b
  unfold insideS
  cases h : okS (a1, a2) <;> cases h' : okS (b1, b2) <;> cases h2 : decide (b1 ≤ a1) <;> cases h3 : decide (a2 ≤ b2)
  all_goals
    go_enter Try.func65, Try.ntmps65
    go_wp2_with (go_at_call 86; refine (Valid_any _ _ _).mono ?_; rintro e w1 ⟨rfl, hb⟩; obtain ⟨hcw1, hfw1⟩ := bcell hb; have hzw1 := Below.size hb; (try simp at hzw1); have hzw10 : w.heap.size < w1.heap.size := (by omega); have hzw11 : w.heap.size + 1 < w1.heap.size := (by omega))
    go_ret
    exact ⟨rfl, (by repeat' (first | exact Below.refl _ _ | assumption | apply bDrewN | apply bDrew | apply bAlloc | (refine bSet ?_ ?_ _) | (refine bStep ?_ (by assumption)) | omega | (simp <;> omega)))⟩
theorem half_dn (x : Int) (h1 : -2199023255552 ≤ x) (h2 : x ≤ 2199023255552) : dn x 1 2 = x / 2 := by
  unfold dn Pl.dvq Pl.dvr Pl.LIM sg
  have e : ((1 : Int).natAbs : Int) = 1 := rfl
  have e2 : ((2 : Int).natAbs : Int) = 2 := rfl
  rw [e, e2]
  by_cases hx : x < 0
  · have : (x.natAbs : Int) = -x := by omega
    rw [this]
    simp [hx]
    split <;> (try split) <;> omega
  · have : (x.natAbs : Int) = x := by omega
    rw [this]
    by_cases hx0 : 0 < x
    · simp [hx, hx0]
      omega
    · have : x = 0 := by omega
      subst this
      simp
set_option maxHeartbeats 400000 in
theorem RMiddle_any (s : Int × Int) (w : World) : Calls Try.prog 74 #[.agg #[.int .i64 s.1, .int .i64 s.2]] w fun e w' => e = .returned (.tuple #[.int .i64 (middleS s).1, .int .i64 (middleS s).2]) ∧ Below w.heap.size w w' := by
  cases h : okS s
  · rw [middleS_no h]
    obtain ⟨a1, a2⟩ := s
    go_enter Try.func74, Try.ntmps74
    go_wp2_with (go_at_call 86; refine (Valid_any _ _ _).mono ?_; rintro e w1 ⟨rfl, hb⟩; obtain ⟨hcw1, hfw1⟩ := bcell hb; have hzw1 := Below.size hb; (try simp at hzw1); have hzw10 : w.heap.size < w1.heap.size := (by omega))
    go_ret2
    exact ⟨rfl, (by repeat' (first | exact Below.refl _ _ | assumption | apply bDrewN | apply bDrew | apply bAlloc | (refine bSet ?_ ?_ _) | (refine bStep ?_ (by assumption)) | omega | (simp <;> omega)))⟩
  rw [middleS_yes h]
  obtain ⟨h1, h2, h3⟩ := okS_bd h
  rw [← half_dn _ (by omega) (by omega)]
  obtain ⟨a1, a2⟩ := s
  dsimp only at *
  have H := Lib.hid (fun w => Down_any (a1 + a2) 1 2 w (by omega) (by omega) (by omega) (by omega) (by omega) (by omega) (by omega))
  generalize dn (a1 + a2) 1 2 = v at *
  go_enter Try.func74, Try.ntmps74
  go_wp2_with (first | (go_at_call 86; refine (Valid_any _ _ _).mono ?_; rintro e w1 ⟨rfl, hb⟩; obtain ⟨hcw1, hfw1⟩ := bcell hb; have hzw1 := Below.size hb; (try simp at hzw1); have hzw10 : w.heap.size < w1.heap.size := (by omega)) | (go_at_call 49; refine (H.out _).mono ?_; rintro e w' ⟨rfl, k, rfl⟩))
  go_ret2
  exact ⟨rfl, (by repeat' (first | exact Below.refl _ _ | assumption | apply bDrewN | apply bDrew | apply bAlloc | (refine bSet ?_ ?_ _) | (refine bStep ?_ (by assumption)) | omega | (simp <;> omega)))⟩
set_option maxHeartbeats 400000 in
theorem rcheck_any (l : List (Int × Int)) (b off c : Nat) (w : World) (hl : l.length ≤ 9223372036854775807) (hc : SpanCells w b off l) :
    Calls Try.prog 60 #[.slice (some ⟨b, off, none⟩) l.length c] w fun e w' => e = .returned (.int .i64 (if l.all okS = true then 0 else 2)) ∧ Below w.heap.size w w' := by
  obtain ⟨hb, hc⟩ := hc
  generalize hT : (if l.all okS = true then (0 : Int) else 2) = T
  have HT := Lib.hid hT
  clear hT
  go_enter Try.func60, Try.ntmps60
  go_wp2
  go_loopw [3] (fun i wr => ∃ k : Nat, k ≤ l.length ∧ i = .int .i64 k ∧ Below w.heap.size w wr ∧ Hid ((l.take k).all okS = true)) (fun i _ => l.length - (intOf i).toNat)
  case atStart => exact ⟨0, by omega, rfl, Below.refl _ _, by simp [Hid]⟩
  case round =>
    obtain ⟨k, hk, rfl, hB, HQ⟩ := hrel
    by_cases hlt : k < l.length
    · obtain ⟨g1, g2⟩ := hc k hlt
      rw [← hB.cell (p := ⟨b, off + k * 2, none⟩) hb] at g1
      rw [← hB.cell (p := ⟨b, off + k * 2 + 1, none⟩) hb] at g2
      clear hc
      go_wp2_with (go_at_call 86; refine (Valid_any _ _ _).mono ?_; rintro e w' ⟨rfl, hb1⟩)
      · go_ret
        have hf : okS (l[k].fst, l[k].snd) = false := by simpa using ‹(!okS (l[k].fst, l[k].snd)) = true›
        have : l.all okS = false := by
          rw [List.all_eq_false]
          exact ⟨l[k], List.getElem_mem _, by simp [hf]⟩
        refine ⟨?_, (by repeat' (first | exact Below.refl _ _ | assumption | apply bDrewN | apply bDrew | apply bAlloc | (refine bSet ?_ ?_ _) | (refine bStep ?_ (by assumption)) | omega | (simp <;> omega)))⟩
        rw [← HT.out, this]; rfl
      · have hf : okS (l[k].fst, l[k].snd) = true := by simpa using ‹(!okS (l[k].fst, l[k].snd)) = false›
        go_roundw
        case rel =>
          refine ⟨k + 1, by omega, by go_num, (by repeat' (first | exact Below.refl _ _ | assumption | apply bDrewN | apply bDrew | apply bAlloc | (refine bSet ?_ ?_ _) | (refine bStep ?_ (by assumption)) | omega | (simp <;> omega))), ?_⟩
          rw [Hid, List.take_succ_eq_append_getElem hlt, List.all_append, HQ.out]
          simp [hf]
        case measure => simp [intOf]; omega
    · go_wp2
      go_ret
      obtain rfl : k = l.length := by omega
      have := HQ.out
      rw [List.take_length] at this
      refine ⟨?_, (by repeat' (first | exact Below.refl _ _ | assumption | apply bDrewN | apply bDrew | apply bAlloc | (refine bSet ?_ ?_ _) | (refine bStep ?_ (by assumption)) | omega | (simp <;> omega)))⟩
      rw [← HT.out, this]; rfl

theorem rcheck_oneN (X : World) (x y : Int) (t : TypeId) (fr : Nat × Nat) (b c : Nat) (hb : b = X.heap.size) :
    Calls Try.prog 60 #[.slice (some ⟨b, 0, none⟩) 1 c] (X.alloc (.cells #[.int .i64 x, .int .i64 y] t fr)) fun e w' => e = .returned (.int .i64 (checkS (x, y))) ∧ Below (X.alloc (.cells #[.int .i64 x, .int .i64 y] t fr)).heap.size (X.alloc (.cells #[.int .i64 x, .int .i64 y] t fr)) w' := by
  subst hb
  have h := blk_new X (.cells #[.int .i64 x, .int .i64 y] t fr)
  exact (rcheck_any [(x, y)] _ 0 c _ (by simp) (spanCells_one (blk_lt h) (blk_cell h rfl) (by simpa using blk_cell (o := 1) h rfl))).mono fun _ _ ⟨he, h⟩ => ⟨by simpa [checkS] using he, h⟩
end Go.Proofs.Ytngnehlmbipabaa

/-
  Drawn regions with calls: the class of the worlds behind a world.
-/
set_option linter.unusedSimpArgs false
set_option linter.unusedVariables false
namespace Go.Proofs.Ytngnehlmbipabaa
open Go.RowKit
def WStep (w : World) : Type := { W : World // Below w.heap.size w W }
instance (w : World) : Nonempty (WStep w) := ⟨⟨w, Below.refl _ _⟩⟩
theorem wp_region_step {P : Program} {id : Nat} {Q : Exit → Act → World → Prop} {a : Act} {w : World} {l : List Oper} (hm : P.follows .mixedOrders = true) (hB : Region.lexB .any l.toArray = true)
    (h : wpQuiet P l.toArray (fun W => ∃ s : WStep w, W = s.1) (fun a' => ∀ w', (∃ s : WStep w, w' = s.1) → Q .normal a' w') l a) : (Code.region id l.toArray true).wp P Q a w :=
  wp_region_quiet (C := fun W => ∃ s : WStep w, W = s.1) hm hB ⟨⟨w.drew, (Below.refl _ _).drew⟩, rfl⟩ (by simpa using h)
/-- A contract for each world behind w. -/
theorem step_call {P : Program} {f : FuncId} {args : Array Value} {w : World} {v : Value} (s : WStep w) (h : Calls P f args s.1 fun e w' => e = .returned v ∧ Below s.1.heap.size s.1 w') :
    Calls P f args s.1 fun e w' => e = .returned v ∧ ∃ t : WStep w, w' = t.1 := h.mono fun _ w' q => ⟨q.1, ⟨w', bStep s.2 q.2⟩, rfl⟩
end Go.Proofs.Ytngnehlmbipabaa
