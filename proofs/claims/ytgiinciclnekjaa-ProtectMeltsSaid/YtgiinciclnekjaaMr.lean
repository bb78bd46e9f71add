/-
  The walk of the reference's Melts.
-/
import Derived.Test.YtgiinciclnekjaaMa
import Derived.WalkKit
set_option linter.unusedSimpArgs false
set_option linter.unusedVariables false
namespace Go.Proofs.Ytgiinciclnekjaa
open Go.RowKit

theorem RMelts_bad (r m : Int) (v : Value) (w : World) (h : r < 0 ∨ (0 ≤ r ∧ 1048576 < r) ∨ (0 ≤ r ∧ r ≤ 1048576 ∧ m < 1) ∨ (0 ≤ r ∧ r ≤ 1048576 ∧ 1 ≤ m ∧ 1099511627776 < m)) :
    Calls Try.prog 24 #[.agg #[.int .i64 r, .int .i64 m], v] w fun e w' => e = .returned (.tuple #[.int .i64 0, .bool false, .int .i64 2]) ∧ Below w.heap.size w w' := by
  rcases h with h | ⟨h1, h2⟩ | ⟨h1, h2, h3⟩ | ⟨h1, h2, h3, h4⟩
  all_goals
    go_enter Try.func24, Try.ntmps24
    go_wp2_with fail
    exact bodyPost_ret (v := .tuple #[.int .i64 0, .bool false, .int .i64 2]) (by simp only [results, Try.results24]; go_simp) rfl ⟨rfl, (by repeat' (first | exact Below.refl _ _ | assumption | apply bDrewN | apply bDrew | apply bAlloc | (refine bSet ?_ ?_ _) | (refine bStep ?_ (by assumption)) | omega | (simp <;> omega)))⟩

set_option maxHeartbeats 1000000 in
set_option maxRecDepth 20000 in
theorem RMelts_row (r m : Int) (a : Option Addr) (c : Nat) (xs : List Int) (w : World) (hl : xs.length ≤ 1000000) (hA : IntAt a xs w) :
    Calls Try.prog 24 #[.agg #[.int .i64 r, .int .i64 m], .slice a xs.length c] w fun e w' => e = .returned (mtup (meltS r m xs)) ∧ Below w.heap.size w w' := by
  by_cases hok : okF r m
  · obtain ⟨k1, k2, k3, k4⟩ := id hok
    by_cases hmany : 2000 < xs.length
    · have hr : meltS r m xs = (0, false, 6) := by unfold meltS; rw [if_pos hok, if_pos hmany]
      rw [hr]
      have h' : 2000 < (xs.length : Int) := by omega
      clear hr hmany hok hA
      go_enter Try.func24, Try.ntmps24
      go_wp2_with fail
      exact bodyPost_ret (v := .tuple #[.int .i64 0, .bool false, .int .i64 6]) (by simp only [results, Try.results24]; go_simp) rfl ⟨rfl, (by repeat' (first | exact Below.refl _ _ | assumption | apply bDrewN | apply bDrew | apply bAlloc | (refine bSet ?_ ?_ _) | (refine bStep ?_ (by assumption)) | omega | (simp <;> omega)))⟩
    · have h' : (xs.length : Int) ≤ 2000 := by omega
      have HA := Lib.hid hA
      have hr1 : Hid (xs.all inR = false → meltS r m xs = (0, false, 3)) := fun hq => by unfold meltS; rw [if_pos hok, if_neg hmany, hq]; rfl
      have hr2 : Hid (xs.all inR = true → meltS r m xs = ((burn r m xs 0 0).1, (burn r m xs 0 0).2, 0)) := fun hq => by unfold meltS; rw [if_pos hok, if_neg hmany, hq]; rfl
      generalize meltS r m xs = T at *
      clear hmany hok hA
      go_enter Try.func24, Try.ntmps24
      go_wp2_with fail
      go_loopw [7] (fun i wr => ∃ k : Nat, k ≤ xs.length ∧ i = .int .i64 k ∧ wr = w.alloc (.cells #[.int .i64 r, .int .i64 m] 54) ∧ Hid ((xs.take k).all inR = true)) (fun i _ => xs.length - (intOf i).toNat)
      case atStart => exact ⟨0, by omega, rfl, rfl, by simp [Hid]⟩
      case round =>
        obtain ⟨k, hk, rfl, rfl, HQ⟩ := hrel
        by_cases hlt : k < xs.length
        · obtain ⟨b, off, rfl, g1⟩ := (HA.out.step (w2 := w.alloc (.cells #[.int .i64 r, .int .i64 m] 54)) (by repeat' (first | exact Below.refl _ _ | assumption | apply bDrewN | apply bDrew | apply bAlloc | (refine bSet ?_ ?_ _) | (refine bStep ?_ (by assumption)) | omega | (simp <;> omega)))).at_ hlt
          have HS : Hid (-1048576 ≤ xs[k] ∧ xs[k] ≤ 1048576 → (xs.take (k + 1)).all inR = true) := by
            intro h
            rw [List.take_succ_eq_append_getElem hlt, List.all_append, HQ.out]
            simp [inR_iff.2 h]
          have HN : Hid (xs[k] < -1048576 ∨ 1048576 < xs[k] → xs.all inR = false) := by
            intro h
            rw [List.all_eq_false]
            refine ⟨xs[k], List.getElem_mem _, fun c => ?_⟩
            have := inR_iff.1 c
            omega
          generalize xs[k] = x at *
          clear HQ HA hr2
          rcases Int.lt_or_le x (-1048576) with h | h
          · have hn := hr1.out (HN.out (Or.inl h))
            subst hn
            clear HN HS hr1
            go_wp2_with fail
            exact bodyPost_ret (v := .tuple #[.int .i64 0, .bool false, .int .i64 3]) (by simp only [results, Try.results24]; go_simp) rfl ⟨rfl, (by repeat' (first | exact Below.refl _ _ | assumption | apply bDrewN | apply bDrew | apply bAlloc | (refine bSet ?_ ?_ _) | (refine bStep ?_ (by assumption)) | omega | (simp <;> omega)))⟩
          · rcases Int.lt_or_le 1048576 x with h2 | h2
            · have hn := hr1.out (HN.out (Or.inr h2))
              subst hn
              clear HN HS hr1
              go_wp2_with fail
              exact bodyPost_ret (v := .tuple #[.int .i64 0, .bool false, .int .i64 3]) (by simp only [results, Try.results24]; go_simp) rfl ⟨rfl, (by repeat' (first | exact Below.refl _ _ | assumption | apply bDrewN | apply bDrew | apply bAlloc | (refine bSet ?_ ?_ _) | (refine bStep ?_ (by assumption)) | omega | (simp <;> omega)))⟩
            · clear HN hr1
              go_wp2_with fail
              go_roundw
              case rel => exact ⟨k + 1, by omega, by go_num, by first | rfl | trivial, HS.out ⟨h, h2⟩⟩
              case measure => (simp [intOf]; omega)
        · obtain rfl : k = xs.length := by omega
          have HQ2 := HQ.out
          rw [List.take_length] at HQ2
          have hn := hr2.out HQ2
          have HQ := Lib.hid HQ2
          clear HQ2 hr1 hr2
          obtain ⟨R, hR⟩ : ∃ R, burn r m xs 0 0 = R := ⟨_, rfl⟩
          have HR := Lib.hid hR
          rw [hR] at hn
          subst hn
          clear hR
          go_wp2_with fail
          go_loopw [8, 9] (fun hv i wr => ∃ (k n : Nat) (H : Int), k ≤ xs.length ∧ i = .int .i64 k ∧ hv = .int .i64 H ∧ 0 ≤ H ∧ H < m ∧ wr = (w.alloc (.cells #[.int .i64 r, .int .i64 m] 54)).drewN n ∧ Hid (burn r m (xs.drop k) H k = R)) (fun _ i _ => xs.length - (intOf i).toNat)
          case atStart => exact ⟨0, 0, 0, by omega, rfl, rfl, by omega, by omega, rfl, by unfold Hid; simpa using HR.out⟩
          case round =>
            obtain ⟨k, n, H, hk, rfl, rfl, g1, g2, rfl, HB⟩ := hrel
            by_cases hlt : k < xs.length
            · obtain ⟨b, off, rfl, g3⟩ := (HA.out.step (w2 := w.alloc (.cells #[.int .i64 r, .int .i64 m] 54)) (by repeat' (first | exact Below.refl _ _ | assumption | apply bDrewN | apply bDrew | apply bAlloc | (refine bSet ?_ ?_ _) | (refine bStep ?_ (by assumption)) | omega | (simp <;> omega)))).at_ hlt
              have hx := all_get HQ.out hlt
              have hd := burn_drop (r := r) (m := m) (h := H) hlt
              rw [HB.out] at hd
              have hd' := Lib.hid hd
              clear hd HB HQ HA HR hl
              generalize xs[k] = x at *
              obtain ⟨q1, q2, q3, q4⟩ := melt_bounds hx ⟨k1, k2⟩
              have hh : heat r H x = max 0 (H + x * x - r * r) := by unfold heat; congr 1; omega
              rw [hh] at hd'
              clear hh
              obtain ⟨y1, y2⟩ := hx
              obtain ⟨H', hH⟩ : ∃ H', max 0 (H + x * x - r * r) = H' := ⟨_, rfl⟩
              rw [hH] at hd'
              have e1 : (if (0 : Int) < H + x * x - r * r then H + x * x - r * r else 0) = H' := by rw [← hH]; split <;> omega
              have hH0 : 0 ≤ H' := by omega
              have e2 : Hid ((if r * r < H + x * x then H + x * x - r * r else 0) = H') := by unfold Hid; rw [← hH]; split <;> omega
              clear hH
              rcases Int.lt_or_le H' m with hm | hm
              · have hn := Lib.hid (hd'.out.trans (if_neg (show ¬ m ≤ H' by omega)))
                clear hd'
                go_wp2_with fail
                go_quiet (fail)
                go_wp2_with fail
                go_roundw
                case rel => exact ⟨k + 1, _, H', by omega, by go_num, by first | rfl | rw [e2.out], hH0, hm, by first | exact Go.World.drewN_drewN .. | rfl | (simp; rfl), hn.out.symm⟩
                case measure => (simp [intOf]; omega)
              · have hn := hd'.out.trans (if_pos hm)
                subst hn
                clear hd'
                go_wp2_with fail
                go_quiet (fail)
                go_wp2_with fail
                exact bodyPost_ret (v := .tuple #[.int .i64 k, .bool true, .int .i64 0]) (by simp only [results, Try.results24]; go_simp) rfl ⟨rfl, (by repeat' (first | exact Below.refl _ _ | assumption | apply bDrewN | apply bDrew | apply bAlloc | (refine bSet ?_ ?_ _) | (refine bStep ?_ (by assumption)) | omega | (simp <;> omega)))⟩
            · obtain rfl : k = xs.length := by omega
              have hn := HB.out
              rw [List.drop_length, burn] at hn
              subst hn
              clear HB HQ HA HR
              go_wp2_with fail
              exact bodyPost_ret (v := .tuple #[.int .i64 0, .bool false, .int .i64 0]) (by simp only [results, Try.results24]; go_simp) rfl ⟨rfl, (by repeat' (first | exact Below.refl _ _ | assumption | apply bDrewN | apply bDrew | apply bAlloc | (refine bSet ?_ ?_ _) | (refine bStep ?_ (by assumption)) | omega | (simp <;> omega)))⟩
  · have hr : meltS r m xs = (0, false, 2) := by unfold meltS; rw [if_neg hok]
    rw [hr]
    exact RMelts_bad r m _ w (by unfold okF at hok; omega)
end Go.Proofs.Ytgiinciclnekjaa
