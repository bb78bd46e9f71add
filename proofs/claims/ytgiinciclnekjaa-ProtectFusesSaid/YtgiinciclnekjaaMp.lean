/-
  The walk of protect.Melts.
-/
import Derived.Test.YtgiinciclnekjaaMa
import Derived.WalkKit
set_option linter.unusedSimpArgs false
set_option linter.unusedVariables false
namespace Go.Proofs.Ytgiinciclnekjaa
open Go.RowKit

theorem out_any (x : Int) (w : World) : Calls Try.prog 75 #[.int .i64 x] w fun e w' => e = .returned (.bool (!inR x)) ∧ w = w' := by
  rcases Int.lt_or_le x (-1048576) with h | h
  · have e : inR x = false := by cases c : inR x with | false => rfl | true => have := inR_iff.1 c; omega
    rw [e]
    go_enter Try.func75, Try.ntmps75
    go_wp2_with fail
    go_ret
    exact ⟨rfl, rfl⟩
  · rcases Int.lt_or_le 1048576 x with h2 | h2
    · have e : inR x = false := by cases c : inR x with | false => rfl | true => have := inR_iff.1 c; omega
      rw [e]
      go_enter Try.func75, Try.ntmps75
      go_wp2_with fail
      go_ret
      exact ⟨rfl, rfl⟩
    · have e : inR x = true := inR_iff.2 ⟨h, h2⟩
      rw [e]
      go_enter Try.func75, Try.ntmps75
      go_wp2_with fail
      go_ret
      exact ⟨by simp; omega, rfl⟩

set_option maxHeartbeats 400000 in
theorem indexFunc_ints (xs : List Int) (a : Option Addr) (c : Nat) (w : World) (hl : xs.length ≤ 1000000) (hA : IntAt a xs w) :
    Calls Try.prog 87 #[.slice a xs.length c, .func (.func 75) #[] #[]] w fun e w' => (∃ r : Int, e = .returned (.int .i64 r) ∧ (decide (0 ≤ r) = !(xs.all inR))) ∧ w = w' := by
  have HA := Lib.hid hA
  clear hA
  go_enter Try.func87, Try.ntmps87
  go_wp2
  go_loopw [8] (fun i wr => ∃ k : Nat, k ≤ xs.length ∧ i = .int .i64 k ∧ wr = w ∧ Hid ((xs.take k).all inR = true)) (fun i _ => xs.length - (intOf i).toNat)
  case atStart => exact ⟨0, by omega, rfl, rfl, by simp [Hid]⟩
  case round =>
    obtain ⟨k, hk, rfl, rfl, HQ⟩ := hrel
    by_cases hlt : k < xs.length
    · obtain ⟨b, off, rfl, g1⟩ := HA.out.at_ hlt
      have HS : Hid (inR xs[k] = true → (xs.take (k + 1)).all inR = true) := by
        intro h
        rw [List.take_succ_eq_append_getElem hlt, List.all_append, HQ.out]
        simp [h]
      have HN : Hid (inR xs[k] = false → xs.all inR = false) := by
        intro h
        rw [List.all_eq_false]
        exact ⟨xs[k], List.getElem_mem _, by simp [h]⟩
      have C := Lib.hid (fun w => out_any xs[k] w)
      generalize inR xs[k] = q at *
      generalize xs[k] = x at *
      clear HQ HA
      cases q
      all_goals
        go_wp2_with (go_at_call 75; refine (C.out _).mono ?_; rintro e w' ⟨rfl, rfl⟩)
      · go_ret
        exact ⟨⟨k, rfl, by rw [HN.out (by first | rfl | trivial)]; simp⟩, by first | rfl | trivial⟩
      · go_roundw
        case rel => exact ⟨k + 1, by omega, by go_num, by first | rfl | trivial, HS.out (by first | rfl | trivial)⟩
        case measure => (simp [intOf]; omega)
    · go_wp2
      go_ret
      obtain rfl : k = xs.length := by omega
      have := HQ.out
      rw [List.take_length] at this
      exact ⟨⟨-1, rfl, by simp [this]⟩, rfl⟩

set_option maxHeartbeats 400000 in
theorem containsFunc_ints (xs : List Int) (a : Option Addr) (c : Nat) (w : World) (hl : xs.length ≤ 1000000) (hA : IntAt a xs w) :
    Calls Try.prog 54 #[.slice a xs.length c, .func (.func 75) #[] #[]] w fun e w' => e = .returned (.bool (!(xs.all inR))) ∧ w = w' := by
  have H := Lib.hid (fun w hA => indexFunc_ints xs a c w hl hA)
  have HA := Lib.hid hA
  clear hA
  go_enter Try.func54, Try.ntmps54
  go_wp2_with (go_at_call 87; refine (H.out _ HA.out).mono ?_; rintro e w' ⟨⟨r, rfl, hr⟩, rfl⟩)
  go_ret
  exact ⟨by simp [hr], rfl⟩

theorem Melts_bad (r m : Int) (v : Value) (w : World) (h : r < 0 ∨ (0 ≤ r ∧ 1048576 < r) ∨ (0 ≤ r ∧ r ≤ 1048576 ∧ m < 1) ∨ (0 ≤ r ∧ r ≤ 1048576 ∧ 1 ≤ m ∧ 1099511627776 < m)) :
    Calls Try.prog 23 #[.agg #[.int .i64 r, .int .i64 m], v] w fun e w' => e = .returned (.tuple #[.int .i64 0, .bool false, .int .i64 2]) ∧ Below w.heap.size w w' := by
  rcases h with h | ⟨h1, h2⟩ | ⟨h1, h2, h3⟩ | ⟨h1, h2, h3, h4⟩
  all_goals
    go_enter Try.func23, Try.ntmps23
    go_wp2_with fail
    exact bodyPost_ret (v := .tuple #[.int .i64 0, .bool false, .int .i64 2]) (by simp only [results, Try.results23]; go_simp) rfl ⟨rfl, (by repeat' (first | exact Below.refl _ _ | assumption | apply bDrewN | apply bDrew | apply bAlloc | (refine bSet ?_ ?_ _) | (refine bStep ?_ (by assumption)) | omega | (simp <;> omega)))⟩

set_option maxHeartbeats 1000000 in
set_option maxRecDepth 20000 in
theorem Melts_row (r m : Int) (a : Option Addr) (c : Nat) (xs : List Int) (w : World) (hl : xs.length ≤ 1000000) (hA : IntAt a xs w) :
    Calls Try.prog 23 #[.agg #[.int .i64 r, .int .i64 m], .slice a xs.length c] w fun e w' => e = .returned (mtup (meltS r m xs)) ∧ Below w.heap.size w w' := by
  by_cases hok : okF r m
  · obtain ⟨k1, k2, k3, k4⟩ := id hok
    by_cases hmany : 2000 < xs.length
    · have hr : meltS r m xs = (0, false, 6) := by unfold meltS; rw [if_pos hok, if_pos hmany]
      rw [hr]
      have h' : 2000 < (xs.length : Int) := by omega
      clear hr hmany hok hA
      go_enter Try.func23, Try.ntmps23
      go_wp2_with fail
      exact bodyPost_ret (v := .tuple #[.int .i64 0, .bool false, .int .i64 6]) (by simp only [results, Try.results23]; go_simp) rfl ⟨rfl, (by repeat' (first | exact Below.refl _ _ | assumption | apply bDrewN | apply bDrew | apply bAlloc | (refine bSet ?_ ?_ _) | (refine bStep ?_ (by assumption)) | omega | (simp <;> omega)))⟩
    · have C := Lib.hid (fun w h => containsFunc_ints xs a c w hl h)
      have h' : (xs.length : Int) ≤ 2000 := by omega
      have HA := Lib.hid hA
      have hq : xs.all inR = false ∨ xs.all inR = true := by cases xs.all inR <;> simp
      rcases hq with hq | hq
      · have hr : meltS r m xs = (0, false, 3) := by unfold meltS; rw [if_pos hok, if_neg hmany, hq]; rfl
        rw [hr]
        rw [hq] at C
        clear hr hmany hok hA hl
        go_enter Try.func23, Try.ntmps23
        go_wp2_with (go_at_call 54; refine (C.out _ (HA.out.step (by repeat' (first | exact Below.refl _ _ | assumption | apply bDrewN | apply bDrew | apply bAlloc | (refine bSet ?_ ?_ _) | (refine bStep ?_ (by assumption)) | omega | (simp <;> omega))))).mono ?_; rintro e w' ⟨rfl, rfl⟩)
        exact bodyPost_ret (v := .tuple #[.int .i64 0, .bool false, .int .i64 3]) (by simp only [results, Try.results23]; go_simp) rfl ⟨rfl, (by repeat' (first | exact Below.refl _ _ | assumption | apply bDrewN | apply bDrew | apply bAlloc | (refine bSet ?_ ?_ _) | (refine bStep ?_ (by assumption)) | omega | (simp <;> omega)))⟩
      · have hr : meltS r m xs = ((burn r m xs 0 0).1, (burn r m xs 0 0).2, 0) := by unfold meltS; rw [if_pos hok, if_neg hmany, hq]; rfl
        rw [hr]
        rw [hq] at C
        have HQ := Lib.hid hq
        clear hr hmany hok hA hq
        obtain ⟨R, hR⟩ : ∃ R, burn r m xs 0 0 = R := ⟨_, rfl⟩
        have HR := Lib.hid hR
        rw [hR]
        clear hR
        go_enter Try.func23, Try.ntmps23
        go_wp2_with (go_at_call 54; refine (C.out _ (HA.out.step (by repeat' (first | exact Below.refl _ _ | assumption | apply bDrewN | apply bDrew | apply bAlloc | (refine bSet ?_ ?_ _) | (refine bStep ?_ (by assumption)) | omega | (simp <;> omega))))).mono ?_; rintro e w' ⟨rfl, rfl⟩)
        clear C
        go_loopw [7, 35] (fun hv i wr => ∃ (k : Nat) (H : Int), k ≤ xs.length ∧ i = .int .i64 k ∧ hv = .int .i64 H ∧ 0 ≤ H ∧ H < m ∧ wr = w.alloc (.cells #[.int .i64 r, .int .i64 m] 54) ∧ Hid (burn r m (xs.drop k) H k = R)) (fun _ i _ => xs.length - (intOf i).toNat)
        case atStart => exact ⟨0, 0, by omega, rfl, rfl, by omega, by omega, rfl, by unfold Hid; simpa using HR.out⟩
        case round =>
          obtain ⟨k, H, hk, rfl, rfl, g1, g2, rfl, HB⟩ := hrel
          by_cases hlt : k < xs.length
          · obtain ⟨b, off, rfl, g3⟩ := (HA.out.step (w2 := w.alloc (.cells #[.int .i64 r, .int .i64 m] 54)) (by repeat' (first | exact Below.refl _ _ | assumption | apply bDrewN | apply bDrew | apply bAlloc | (refine bSet ?_ ?_ _) | (refine bStep ?_ (by assumption)) | omega | (simp <;> omega)))).at_ hlt
            have hx := all_get HQ.out hlt
            have hd := burn_drop (r := r) (m := m) (h := H) hlt
            rw [HB.out] at hd
            have hd' := Lib.hid hd
            clear hd HB HQ HA HR hl
            generalize xs[k] = x at *
            obtain ⟨q1, q2, q3, q4⟩ := melt_bounds hx ⟨k1, k2⟩
            have hs := sq_diff x r
            have hh : heat r H x = max 0 (H + (x - r) * (x + r)) := by unfold heat; rw [hs]
            rw [hh] at hd'
            have hp1 : -1099511627776 ≤ (x - r) * (x + r) := by omega
            have hp2 : (x - r) * (x + r) ≤ 1099511627776 := by omega
            clear hs hh q1 q2 q3 q4
            obtain ⟨y1, y2⟩ := hx
            obtain ⟨H', hH⟩ : ∃ H', max 0 (H + (x - r) * (x + r)) = H' := ⟨_, rfl⟩
            rw [hH] at hd'
            have e1 : (if (0 : Int) < H + (x - r) * (x + r) then H + (x - r) * (x + r) else 0) = H' := by rw [← hH]; split <;> omega
            have hH0 : 0 ≤ H' := by omega
            clear hH
            rcases Int.lt_or_le H' m with hm | hm
            · have hn := Lib.hid (hd'.out.trans (if_neg (show ¬ m ≤ H' by omega)))
              clear hd'
              go_wp2_with fail
              go_roundw
              case rel => exact ⟨k + 1, H', by omega, by go_num, rfl, hH0, hm, by first | rfl | trivial, hn.out.symm⟩
              case measure => (simp [intOf]; omega)
            · have hn := hd'.out.trans (if_pos hm)
              subst hn
              clear hd'
              go_wp2_with fail
              exact bodyPost_ret (v := .tuple #[.int .i64 k, .bool true, .int .i64 0]) (by simp only [results, Try.results23]; go_simp) rfl ⟨rfl, (by repeat' (first | exact Below.refl _ _ | assumption | apply bDrewN | apply bDrew | apply bAlloc | (refine bSet ?_ ?_ _) | (refine bStep ?_ (by assumption)) | omega | (simp <;> omega)))⟩
          · obtain rfl : k = xs.length := by omega
            have hn := HB.out
            rw [List.drop_length, burn] at hn
            subst hn
            clear HB HQ HA HR
            go_wp2_with fail
            exact bodyPost_ret (v := .tuple #[.int .i64 0, .bool false, .int .i64 0]) (by simp only [results, Try.results23]; go_simp) rfl ⟨rfl, (by repeat' (first | exact Below.refl _ _ | assumption | apply bDrewN | apply bDrew | apply bAlloc | (refine bSet ?_ ?_ _) | (refine bStep ?_ (by assumption)) | omega | (simp <;> omega)))⟩
  · have hr : meltS r m xs = (0, false, 2) := by unfold meltS; rw [if_neg hok]
    rw [hr]
    exact Melts_bad r m _ w (by unfold okF at hok; omega)
end Go.Proofs.Ytgiinciclnekjaa
