/-
  The law's curve: made of steps.
-/
import Derived.Test.YtngnehlmbipabaaG34Backs
set_option linter.unusedSimpArgs false
set_option linter.unusedVariables false
namespace Go.Proofs.Ytngnehlmbipabaa
open Go.RowKit
/-- What curve hands back: two rows, in new memory. -/
def CvRes (X Y : List Int) (w : World) (e : Ending) (w' : World) : Prop := ∃ bu ou cu bv ov cv, e = .returned (.agg #[.slice (some ⟨bu, ou, none⟩) X.length cu, .slice (some ⟨bv, ov, none⟩) X.length cv]) ∧ IntAt (some ⟨bu, ou, none⟩) X w' ∧ IntAt (some ⟨bv, ov, none⟩) Y w' ∧ Below w.heap.size w w'
theorem cell_keep {w W : World} {b o : Nat} {v : Value} (hc : w.cell? ⟨b, o, none⟩ = some v) (h : Below w.heap.size w W) : W.cell? ⟨b, o, none⟩ = some v := (h.cell (p := ⟨b, o, none⟩) (cell_lt hc)).trans hc
set_option maxHeartbeats 4000000 in
set_option maxRecDepth 20000 in
theorem curve_any (x0 y0 : Int) (a : Option Addr) (c : Nat) (l : List (Int × Int)) (w : World) (hx : -32768 ≤ x0 ∧ x0 ≤ 32767) (hy : -32768 ≤ y0 ∧ y0 ≤ 32767) (hl : l.length ≤ 9223372036854775807) (hb : stOk l) (hA : StAt a l w) :
    Calls Try.prog 13 #[.int .i16 x0, .int .i16 y0, .slice a l.length c] w fun e w' => CvRes (stX x0 (stps l)) (stY y0 (stps l)) w e w' := by
  have HA := Lib.hid hA
  have HB := Lib.hid hb
  clear hA hb
  have P0 := Lib.hid (CvS.made (w := w) (x := x0) (y := y0))
  go_enter Try.func13, Try.ntmps13
  go_wp2_with fail
  go_loopw [8] (fun i wr => ∃ (k : Nat) (vx vy : Value), k ≤ l.length ∧ k ≤ 20 ∧ i = .int .i64 k ∧ Hid (CvS w w.heap.size (w.heap.size + 3) w.heap.size #[vx, vy] vx vy (stX x0 (l.take k)) (stY y0 (l.take k)) wr)) (fun i _ => 20 - (intOf i).toNat)
  case atStart => exact ⟨0, _, _, by omega, by omega, rfl, by rw [List.take_zero]; exact P0⟩
  case round =>
    obtain ⟨k, vx, vy, hk, hk20, rfl, P0'⟩ := hrel
    clear P0
    have P0 := P0'
    clear P0'
    have i1 : (0 : Int) ≤ (k : Int) := by omega
    have HLX := Lib.hid (show (stX x0 (l.take k)).length = k + 1 by rw [stX_len, List.length_take]; omega)
    have HLY := Lib.hid (show (stY y0 (l.take k)).length = k + 1 by rw [stY_len, List.length_take]; omega)
    obtain ⟨gx, cx, ex, -, -⟩ := IntOwn.blk (P0.out.mq.own 0 _ _ rfl) stX_ne
    obtain ⟨gy, cy, ey, -, -⟩ := IntOwn.blk (P0.out.mq.own 1 _ _ rfl) stY_ne
    rw [HLX.out] at ex
    rw [HLY.out] at ey
    subst ex
    subst ey
    obtain ⟨⟨r0, r1, r2, r3, r4⟩, c0, c1, c2, c3, c4⟩ := P0.out.cells
    by_cases hlt : k < l.length ∧ k < 20
    · obtain ⟨hlt, hlt20⟩ := hlt
      obtain ⟨b, off, rfl, hb0, hc⟩ := HA.out (fun h => by rw [h] at hlt; simp at hlt)
      obtain ⟨E1, E2⟩ := hc k hlt
      replace E1 := Lib.hid E1
      replace E2 := Lib.hid E2
      have hs := HB.out (l.getD k (0, 0)) (by rw [List.getD_eq_getElem?_getD, List.getElem?_eq_getElem hlt]; exact List.getElem_mem hlt)
      have hrg := st_rng (l.take k) x0 y0 k (fun s hs => HB.out s (List.mem_of_mem_take hs)) (by rw [List.length_take]; omega)
      have hln : (l.take k).length ≤ 20 := by rw [List.length_take]; omega
      have HX := Lib.hid (stX_take (x := x0) hlt)
      have HY := Lib.hid (stY_take (x := y0) hlt)
      generalize l.getD k (0, 0) = s at *
      obtain ⟨s1, s2⟩ := s
      dsimp only at E1 E2 hs HX HY
      generalize stX x0 (l.take k) = RX at *
      generalize stY y0 (l.take k) = RY at *
      obtain ⟨x, ex⟩ : ∃ x, RX.getD k 0 = x := ⟨_, rfl⟩
      obtain ⟨y, ey⟩ : ∃ y, RY.getD k 0 = y := ⟨_, rfl⟩
      rw [ex] at HX hrg
      rw [ey] at HY hrg
      have HXX := Lib.hid ex
      have HYY := Lib.hid ey
      clear ex ey
      obtain ⟨⟨u1, u2⟩, u3, u4⟩ := hrg
      obtain ⟨⟨u5, u6⟩, u7, u8⟩ := hs
      have d1 : -40000 ≤ x ∧ x ≤ 40000 := by omega
      have d2 : -40000 ≤ y ∧ y ≤ 40000 := by omega
      clear u1 u2 u3 u4 hln
      have a0 : IntKind.i64.wrap (x + 1) = x + 1 := Go.IntWalk.i64_in _ ⟨by omega, by omega⟩
      have a1 : IntKind.i64.wrap (x + 1 + s1) = x + 1 + s1 := Go.IntWalk.i64_in _ ⟨by omega, by omega⟩
      have a2 : IntKind.i64.wrap (y + s2) = y + s2 := Go.IntWalk.i64_in _ ⟨by omega, by omega⟩
      have a3 : IntKind.i64.wrap s1 = s1 := Go.IntWalk.i64_in _ ⟨by omega, by omega⟩
      have a4 : IntKind.i64.wrap s2 = s2 := Go.IntWalk.i64_in _ ⟨by omega, by omega⟩
      have hkk : k < RX.length := by rw [HLX.out]; omega
      have hky : k < RY.length := by rw [HLY.out]; omega
      have HLN := Lib.hid (show RX.length ≤ 100 ∧ RY.length ≤ 100 by rw [HLX.out, HLY.out]; omega)
      have hk1 : (k : Int) < (k + 1 : Nat) := by omega
      have hl1 : (k : Int) < l.length := by omega
      clear hc hb0 r0 r1 r2 r3 r4 c0 c1 c2 c3 c4
      go_upto_region 5 with fail
      refine region_effs 18 16 [(6, 32), (15, 41), (16, 42)] [(none, []), (none, []), (none, []), (none, []), (none, []), (none, []), (some 0, []), (none, [0]), (none, []), (none, []), (none, []), (none, []), (none, []), (none, []), (none, []), (some 1, [0]), (some 2, [0, 1]), (none, [])] [(26, (.pointer (some ⟨(w.heap.size + 3), 0, none⟩))), (27, (.slice (some ⟨gx, 0, none⟩) (k + 1) cx)), (28, (.pointer (some ⟨(w.heap.size + 3), 0, none⟩))), (29, (.slice (some ⟨gx, 0, none⟩) (k + 1) cx)), (30, (.int .i64 (k : Int))), (31, (.pointer (some ⟨gx, k, none⟩))), (33, (.int .i64 (x + 1))), (34, (.slice (some ⟨b, off, none⟩) l.length c)), (35, (.int .i64 (k : Int))), (36, (.pointer (some ⟨b, off + k * 2, none⟩))), (37, (.pointer (some ⟨b, off + k * 2, none⟩))), (38, (.int .u8 s1)), (39, (.int .i64 s1)), (40, (.int .i64 (x + 1 + s1))), (43, (.pointer (some ⟨(w.heap.size + 3), 0, none⟩)))] (fun bsE vsE W => StV w w.heap.size (w.heap.size + 3) w.heap.size #[(.slice (some ⟨gx, 0, none⟩) (k + 1) cx), (.slice (some ⟨gy, 0, none⟩) (k + 1) cy)] (.slice (some ⟨gx, 0, none⟩) (k + 1) cx) RX (.slice (some ⟨gy, 0, none⟩) (k + 1) cy) RY x (x + 1 + s1) (bsE.getD 0 false) (bsE.getD 1 false) (bsE.getD 2 false) (vsE.getD 0 undef) (vsE.getD 1 undef) (vsE.getD 2 undef) W) (by kernel_rfl) (by kernel_rfl) rfl (by kernel_rfl) (by kernel_rfl) (by simp) (by rfl) ?h0 ?each ?tail
      case h0 =>
        intro vsE hlv
        obtain ⟨v0, vsE0, rfl, hlv0⟩ := len_one hlv
        obtain ⟨v1, vsE1, rfl, hlv1⟩ := len_one hlv0
        obtain ⟨v2, vsE2, rfl, hlv2⟩ := len_one hlv1
        obtain rfl := len_nil hlv2
        exact P0.out.start.step (by repeat' (first | exact Below.refl _ _ | apply bDrewN | apply bDrew))
      case each =>
        simp only [List.take_succ_cons, List.take_zero, AllE]
        refine ⟨?_, ?_, ?_, ?_, ?_, ?_, ?_, ?_, ?_, ?_, ?_, ?_, ?_, ?_, ?_, ?_, ?_, ?_, trivial⟩
        · refine ⟨26, (.pointer (some ⟨(w.heap.size + 3), 0, none⟩)), rfl, by kernel_rfl, ?_⟩
          intro bsE vsE W hlb hlv hnd h
          obtain ⟨b0, bsE0, rfl, hlb0⟩ := len_one hlb
          obtain ⟨v0, vsE0, rfl, hlv0⟩ := len_one hlv
          obtain ⟨b1, bsE1, rfl, hlb1⟩ := len_one hlb0
          obtain ⟨v1, vsE1, rfl, hlv1⟩ := len_one hlv0
          obtain ⟨b2, bsE2, rfl, hlb2⟩ := len_one hlb1
          obtain ⟨v2, vsE2, rfl, hlv2⟩ := len_one hlv1
          obtain rfl := len_nil hlb2
          obtain rfl := len_nil hlv2
          replace h : StV w w.heap.size (w.heap.size + 3) w.heap.size #[(.slice (some ⟨gx, 0, none⟩) (k + 1) cx), (.slice (some ⟨gy, 0, none⟩) (k + 1) cy)] (.slice (some ⟨gx, 0, none⟩) (k + 1) cx) RX (.slice (some ⟨gy, 0, none⟩) (k + 1) cy) RY x (x + 1 + s1) b0 b1 b2 v0 v1 v2 W := h
          clear hnd
          have HST := Lib.hid h
          obtain ⟨t0, t1, t2, t3, t4⟩ := h.cells
          intro K Q hK
          simp only [putE, updAll, Act.put, List.setIfInBounds_toArray, List.set_cons_zero, List.set_cons_succ, List.set_nil] at hK ⊢
          go_wp2_with (fail)
          all_goals (first | exact hK _ (by first | exact h | exact h.step (by repeat' (first | exact Below.refl _ _ | apply bDrewN | apply bDrew))) | exact (by first | exact h | exact h.step (by repeat' (first | exact Below.refl _ _ | apply bDrewN | apply bDrew))))
        · refine ⟨27, (.slice (some ⟨gx, 0, none⟩) (k + 1) cx), rfl, by kernel_rfl, ?_⟩
          intro bsE vsE W hlb hlv hnd h
          obtain ⟨b0, bsE0, rfl, hlb0⟩ := len_one hlb
          obtain ⟨v0, vsE0, rfl, hlv0⟩ := len_one hlv
          obtain ⟨b1, bsE1, rfl, hlb1⟩ := len_one hlb0
          obtain ⟨v1, vsE1, rfl, hlv1⟩ := len_one hlv0
          obtain ⟨b2, bsE2, rfl, hlb2⟩ := len_one hlb1
          obtain ⟨v2, vsE2, rfl, hlv2⟩ := len_one hlv1
          obtain rfl := len_nil hlb2
          obtain rfl := len_nil hlv2
          replace h : StV w w.heap.size (w.heap.size + 3) w.heap.size #[(.slice (some ⟨gx, 0, none⟩) (k + 1) cx), (.slice (some ⟨gy, 0, none⟩) (k + 1) cy)] (.slice (some ⟨gx, 0, none⟩) (k + 1) cx) RX (.slice (some ⟨gy, 0, none⟩) (k + 1) cy) RY x (x + 1 + s1) b0 b1 b2 v0 v1 v2 W := h
          clear hnd
          have HST := Lib.hid h
          obtain ⟨t0, t1, t2, t3, t4⟩ := h.cells
          intro K Q hK
          simp only [putE, updAll, Act.put, List.setIfInBounds_toArray, List.set_cons_zero, List.set_cons_succ, List.set_nil] at hK ⊢
          go_wp2_with (fail)
          all_goals (first | exact hK _ (by first | exact h | exact h.step (by repeat' (first | exact Below.refl _ _ | apply bDrewN | apply bDrew))) | exact (by first | exact h | exact h.step (by repeat' (first | exact Below.refl _ _ | apply bDrewN | apply bDrew))))
        · refine ⟨28, (.pointer (some ⟨(w.heap.size + 3), 0, none⟩)), rfl, by kernel_rfl, ?_⟩
          intro bsE vsE W hlb hlv hnd h
          obtain ⟨b0, bsE0, rfl, hlb0⟩ := len_one hlb
          obtain ⟨v0, vsE0, rfl, hlv0⟩ := len_one hlv
          obtain ⟨b1, bsE1, rfl, hlb1⟩ := len_one hlb0
          obtain ⟨v1, vsE1, rfl, hlv1⟩ := len_one hlv0
          obtain ⟨b2, bsE2, rfl, hlb2⟩ := len_one hlb1
          obtain ⟨v2, vsE2, rfl, hlv2⟩ := len_one hlv1
          obtain rfl := len_nil hlb2
          obtain rfl := len_nil hlv2
          replace h : StV w w.heap.size (w.heap.size + 3) w.heap.size #[(.slice (some ⟨gx, 0, none⟩) (k + 1) cx), (.slice (some ⟨gy, 0, none⟩) (k + 1) cy)] (.slice (some ⟨gx, 0, none⟩) (k + 1) cx) RX (.slice (some ⟨gy, 0, none⟩) (k + 1) cy) RY x (x + 1 + s1) b0 b1 b2 v0 v1 v2 W := h
          clear hnd
          have HST := Lib.hid h
          obtain ⟨t0, t1, t2, t3, t4⟩ := h.cells
          intro K Q hK
          simp only [putE, updAll, Act.put, List.setIfInBounds_toArray, List.set_cons_zero, List.set_cons_succ, List.set_nil] at hK ⊢
          go_wp2_with (fail)
          all_goals (first | exact hK _ (by first | exact h | exact h.step (by repeat' (first | exact Below.refl _ _ | apply bDrewN | apply bDrew))) | exact (by first | exact h | exact h.step (by repeat' (first | exact Below.refl _ _ | apply bDrewN | apply bDrew))))
        · refine ⟨29, (.slice (some ⟨gx, 0, none⟩) (k + 1) cx), rfl, by kernel_rfl, ?_⟩
          intro bsE vsE W hlb hlv hnd h
          obtain ⟨b0, bsE0, rfl, hlb0⟩ := len_one hlb
          obtain ⟨v0, vsE0, rfl, hlv0⟩ := len_one hlv
          obtain ⟨b1, bsE1, rfl, hlb1⟩ := len_one hlb0
          obtain ⟨v1, vsE1, rfl, hlv1⟩ := len_one hlv0
          obtain ⟨b2, bsE2, rfl, hlb2⟩ := len_one hlb1
          obtain ⟨v2, vsE2, rfl, hlv2⟩ := len_one hlv1
          obtain rfl := len_nil hlb2
          obtain rfl := len_nil hlv2
          replace h : StV w w.heap.size (w.heap.size + 3) w.heap.size #[(.slice (some ⟨gx, 0, none⟩) (k + 1) cx), (.slice (some ⟨gy, 0, none⟩) (k + 1) cy)] (.slice (some ⟨gx, 0, none⟩) (k + 1) cx) RX (.slice (some ⟨gy, 0, none⟩) (k + 1) cy) RY x (x + 1 + s1) b0 b1 b2 v0 v1 v2 W := h
          clear hnd
          have HST := Lib.hid h
          obtain ⟨t0, t1, t2, t3, t4⟩ := h.cells
          intro K Q hK
          simp only [putE, updAll, Act.put, List.setIfInBounds_toArray, List.set_cons_zero, List.set_cons_succ, List.set_nil] at hK ⊢
          go_wp2_with (fail)
          all_goals (first | exact hK _ (by first | exact h | exact h.step (by repeat' (first | exact Below.refl _ _ | apply bDrewN | apply bDrew))) | exact (by first | exact h | exact h.step (by repeat' (first | exact Below.refl _ _ | apply bDrewN | apply bDrew))))
        · refine ⟨30, (.int .i64 (k : Int)), rfl, by kernel_rfl, ?_⟩
          intro bsE vsE W hlb hlv hnd h
          obtain ⟨b0, bsE0, rfl, hlb0⟩ := len_one hlb
          obtain ⟨v0, vsE0, rfl, hlv0⟩ := len_one hlv
          obtain ⟨b1, bsE1, rfl, hlb1⟩ := len_one hlb0
          obtain ⟨v1, vsE1, rfl, hlv1⟩ := len_one hlv0
          obtain ⟨b2, bsE2, rfl, hlb2⟩ := len_one hlb1
          obtain ⟨v2, vsE2, rfl, hlv2⟩ := len_one hlv1
          obtain rfl := len_nil hlb2
          obtain rfl := len_nil hlv2
          replace h : StV w w.heap.size (w.heap.size + 3) w.heap.size #[(.slice (some ⟨gx, 0, none⟩) (k + 1) cx), (.slice (some ⟨gy, 0, none⟩) (k + 1) cy)] (.slice (some ⟨gx, 0, none⟩) (k + 1) cx) RX (.slice (some ⟨gy, 0, none⟩) (k + 1) cy) RY x (x + 1 + s1) b0 b1 b2 v0 v1 v2 W := h
          clear hnd
          have HST := Lib.hid h
          obtain ⟨t0, t1, t2, t3, t4⟩ := h.cells
          intro K Q hK
          simp only [putE, updAll, Act.put, List.setIfInBounds_toArray, List.set_cons_zero, List.set_cons_succ, List.set_nil] at hK ⊢
          go_wp2_with (fail)
          all_goals (first | exact hK _ (by first | exact h | exact h.step (by repeat' (first | exact Below.refl _ _ | apply bDrewN | apply bDrew))) | exact (by first | exact h | exact h.step (by repeat' (first | exact Below.refl _ _ | apply bDrewN | apply bDrew))))
        · refine ⟨31, (.pointer (some ⟨gx, k, none⟩)), rfl, by kernel_rfl, ?_⟩
          intro bsE vsE W hlb hlv hnd h
          obtain ⟨b0, bsE0, rfl, hlb0⟩ := len_one hlb
          obtain ⟨v0, vsE0, rfl, hlv0⟩ := len_one hlv
          obtain ⟨b1, bsE1, rfl, hlb1⟩ := len_one hlb0
          obtain ⟨v1, vsE1, rfl, hlv1⟩ := len_one hlv0
          obtain ⟨b2, bsE2, rfl, hlb2⟩ := len_one hlb1
          obtain ⟨v2, vsE2, rfl, hlv2⟩ := len_one hlv1
          obtain rfl := len_nil hlb2
          obtain rfl := len_nil hlv2
          replace h : StV w w.heap.size (w.heap.size + 3) w.heap.size #[(.slice (some ⟨gx, 0, none⟩) (k + 1) cx), (.slice (some ⟨gy, 0, none⟩) (k + 1) cy)] (.slice (some ⟨gx, 0, none⟩) (k + 1) cx) RX (.slice (some ⟨gy, 0, none⟩) (k + 1) cy) RY x (x + 1 + s1) b0 b1 b2 v0 v1 v2 W := h
          clear hnd
          have HST := Lib.hid h
          obtain ⟨t0, t1, t2, t3, t4⟩ := h.cells
          intro K Q hK
          simp only [putE, updAll, Act.put, List.setIfInBounds_toArray, List.set_cons_zero, List.set_cons_succ, List.set_nil] at hK ⊢
          go_wp2_with (fail)
          all_goals (first | exact hK _ (by first | exact h | exact h.step (by repeat' (first | exact Below.refl _ _ | apply bDrewN | apply bDrew))) | exact (by first | exact h | exact h.step (by repeat' (first | exact Below.refl _ _ | apply bDrewN | apply bDrew))))
        · refine ⟨32, rfl, ?_⟩
          intro bsE vsE W hlb hlv hnd hbk h
          obtain ⟨b0, bsE0, rfl, hlb0⟩ := len_one hlb
          obtain ⟨v0, vsE0, rfl, hlv0⟩ := len_one hlv
          obtain ⟨b1, bsE1, rfl, hlb1⟩ := len_one hlb0
          obtain ⟨v1, vsE1, rfl, hlv1⟩ := len_one hlv0
          obtain ⟨b2, bsE2, rfl, hlb2⟩ := len_one hlb1
          obtain ⟨v2, vsE2, rfl, hlv2⟩ := len_one hlv1
          obtain rfl := len_nil hlb2
          obtain rfl := len_nil hlv2
          obtain rfl : b0 = false := hbk
          replace h : StV w w.heap.size (w.heap.size + 3) w.heap.size #[(.slice (some ⟨gx, 0, none⟩) (k + 1) cx), (.slice (some ⟨gy, 0, none⟩) (k + 1) cy)] (.slice (some ⟨gx, 0, none⟩) (k + 1) cx) RX (.slice (some ⟨gy, 0, none⟩) (k + 1) cy) RY x (x + 1 + s1) false b1 b2 v0 v1 v2 W := h
          clear hnd
          have HST := Lib.hid h
          have hrd := h.rd hkk HXX.out
          intro K Q hK
          simp only [putE, updAll, Act.put, List.setIfInBounds_toArray, List.set_cons_zero, List.set_cons_succ, List.set_nil] at hK ⊢
          go_wp2_with fail
          all_goals (first | exact hK _ _ h.load | exact h.load)
        · refine ⟨33, (.int .i64 (x + 1)), rfl, by kernel_rfl, ?_⟩
          intro bsE vsE W hlb hlv hnd h
          obtain ⟨b0, bsE0, rfl, hlb0⟩ := len_one hlb
          obtain ⟨v0, vsE0, rfl, hlv0⟩ := len_one hlv
          obtain ⟨b1, bsE1, rfl, hlb1⟩ := len_one hlb0
          obtain ⟨v1, vsE1, rfl, hlv1⟩ := len_one hlv0
          obtain ⟨b2, bsE2, rfl, hlb2⟩ := len_one hlb1
          obtain ⟨v2, vsE2, rfl, hlv2⟩ := len_one hlv1
          obtain rfl := len_nil hlb2
          obtain rfl := len_nil hlv2
          obtain rfl : b0 = true := hnd 0 (by simp)
          replace h : StV w w.heap.size (w.heap.size + 3) w.heap.size #[(.slice (some ⟨gx, 0, none⟩) (k + 1) cx), (.slice (some ⟨gy, 0, none⟩) (k + 1) cy)] (.slice (some ⟨gx, 0, none⟩) (k + 1) cx) RX (.slice (some ⟨gy, 0, none⟩) (k + 1) cy) RY x (x + 1 + s1) true b1 b2 v0 v1 v2 W := h
          clear hnd
          have HST := Lib.hid h
          obtain rfl := h.ld rfl
          intro K Q hK
          simp only [putE, updAll, Act.put, List.setIfInBounds_toArray, List.set_cons_zero, List.set_cons_succ, List.set_nil] at hK ⊢
          go_wp2_with (fail)
          all_goals (first | exact hK _ (by first | exact h | exact h.step (by repeat' (first | exact Below.refl _ _ | apply bDrewN | apply bDrew))) | exact (by first | exact h | exact h.step (by repeat' (first | exact Below.refl _ _ | apply bDrewN | apply bDrew))))
        · refine ⟨34, (.slice (some ⟨b, off, none⟩) l.length c), rfl, by kernel_rfl, ?_⟩
          intro bsE vsE W hlb hlv hnd h
          obtain ⟨b0, bsE0, rfl, hlb0⟩ := len_one hlb
          obtain ⟨v0, vsE0, rfl, hlv0⟩ := len_one hlv
          obtain ⟨b1, bsE1, rfl, hlb1⟩ := len_one hlb0
          obtain ⟨v1, vsE1, rfl, hlv1⟩ := len_one hlv0
          obtain ⟨b2, bsE2, rfl, hlb2⟩ := len_one hlb1
          obtain ⟨v2, vsE2, rfl, hlv2⟩ := len_one hlv1
          obtain rfl := len_nil hlb2
          obtain rfl := len_nil hlv2
          replace h : StV w w.heap.size (w.heap.size + 3) w.heap.size #[(.slice (some ⟨gx, 0, none⟩) (k + 1) cx), (.slice (some ⟨gy, 0, none⟩) (k + 1) cy)] (.slice (some ⟨gx, 0, none⟩) (k + 1) cx) RX (.slice (some ⟨gy, 0, none⟩) (k + 1) cy) RY x (x + 1 + s1) b0 b1 b2 v0 v1 v2 W := h
          clear hnd
          have HST := Lib.hid h
          obtain ⟨t0, t1, t2, t3, t4⟩ := h.cells
          intro K Q hK
          simp only [putE, updAll, Act.put, List.setIfInBounds_toArray, List.set_cons_zero, List.set_cons_succ, List.set_nil] at hK ⊢
          go_wp2_with (fail)
          all_goals (first | exact hK _ (by first | exact h | exact h.step (by repeat' (first | exact Below.refl _ _ | apply bDrewN | apply bDrew))) | exact (by first | exact h | exact h.step (by repeat' (first | exact Below.refl _ _ | apply bDrewN | apply bDrew))))
        · refine ⟨35, (.int .i64 (k : Int)), rfl, by kernel_rfl, ?_⟩
          intro bsE vsE W hlb hlv hnd h
          obtain ⟨b0, bsE0, rfl, hlb0⟩ := len_one hlb
          obtain ⟨v0, vsE0, rfl, hlv0⟩ := len_one hlv
          obtain ⟨b1, bsE1, rfl, hlb1⟩ := len_one hlb0
          obtain ⟨v1, vsE1, rfl, hlv1⟩ := len_one hlv0
          obtain ⟨b2, bsE2, rfl, hlb2⟩ := len_one hlb1
          obtain ⟨v2, vsE2, rfl, hlv2⟩ := len_one hlv1
          obtain rfl := len_nil hlb2
          obtain rfl := len_nil hlv2
          replace h : StV w w.heap.size (w.heap.size + 3) w.heap.size #[(.slice (some ⟨gx, 0, none⟩) (k + 1) cx), (.slice (some ⟨gy, 0, none⟩) (k + 1) cy)] (.slice (some ⟨gx, 0, none⟩) (k + 1) cx) RX (.slice (some ⟨gy, 0, none⟩) (k + 1) cy) RY x (x + 1 + s1) b0 b1 b2 v0 v1 v2 W := h
          clear hnd
          have HST := Lib.hid h
          obtain ⟨t0, t1, t2, t3, t4⟩ := h.cells
          intro K Q hK
          simp only [putE, updAll, Act.put, List.setIfInBounds_toArray, List.set_cons_zero, List.set_cons_succ, List.set_nil] at hK ⊢
          go_wp2_with (fail)
          all_goals (first | exact hK _ (by first | exact h | exact h.step (by repeat' (first | exact Below.refl _ _ | apply bDrewN | apply bDrew))) | exact (by first | exact h | exact h.step (by repeat' (first | exact Below.refl _ _ | apply bDrewN | apply bDrew))))
        · refine ⟨36, (.pointer (some ⟨b, off + k * 2, none⟩)), rfl, by kernel_rfl, ?_⟩
          intro bsE vsE W hlb hlv hnd h
          obtain ⟨b0, bsE0, rfl, hlb0⟩ := len_one hlb
          obtain ⟨v0, vsE0, rfl, hlv0⟩ := len_one hlv
          obtain ⟨b1, bsE1, rfl, hlb1⟩ := len_one hlb0
          obtain ⟨v1, vsE1, rfl, hlv1⟩ := len_one hlv0
          obtain ⟨b2, bsE2, rfl, hlb2⟩ := len_one hlb1
          obtain ⟨v2, vsE2, rfl, hlv2⟩ := len_one hlv1
          obtain rfl := len_nil hlb2
          obtain rfl := len_nil hlv2
          replace h : StV w w.heap.size (w.heap.size + 3) w.heap.size #[(.slice (some ⟨gx, 0, none⟩) (k + 1) cx), (.slice (some ⟨gy, 0, none⟩) (k + 1) cy)] (.slice (some ⟨gx, 0, none⟩) (k + 1) cx) RX (.slice (some ⟨gy, 0, none⟩) (k + 1) cy) RY x (x + 1 + s1) b0 b1 b2 v0 v1 v2 W := h
          clear hnd
          have HST := Lib.hid h
          obtain ⟨t0, t1, t2, t3, t4⟩ := h.cells
          intro K Q hK
          simp only [putE, updAll, Act.put, List.setIfInBounds_toArray, List.set_cons_zero, List.set_cons_succ, List.set_nil] at hK ⊢
          go_wp2_with (fail)
          all_goals (first | exact hK _ (by first | exact h | exact h.step (by repeat' (first | exact Below.refl _ _ | apply bDrewN | apply bDrew))) | exact (by first | exact h | exact h.step (by repeat' (first | exact Below.refl _ _ | apply bDrewN | apply bDrew))))
        · refine ⟨37, (.pointer (some ⟨b, off + k * 2, none⟩)), rfl, by kernel_rfl, ?_⟩
          intro bsE vsE W hlb hlv hnd h
          obtain ⟨b0, bsE0, rfl, hlb0⟩ := len_one hlb
          obtain ⟨v0, vsE0, rfl, hlv0⟩ := len_one hlv
          obtain ⟨b1, bsE1, rfl, hlb1⟩ := len_one hlb0
          obtain ⟨v1, vsE1, rfl, hlv1⟩ := len_one hlv0
          obtain ⟨b2, bsE2, rfl, hlb2⟩ := len_one hlb1
          obtain ⟨v2, vsE2, rfl, hlv2⟩ := len_one hlv1
          obtain rfl := len_nil hlb2
          obtain rfl := len_nil hlv2
          replace h : StV w w.heap.size (w.heap.size + 3) w.heap.size #[(.slice (some ⟨gx, 0, none⟩) (k + 1) cx), (.slice (some ⟨gy, 0, none⟩) (k + 1) cy)] (.slice (some ⟨gx, 0, none⟩) (k + 1) cx) RX (.slice (some ⟨gy, 0, none⟩) (k + 1) cy) RY x (x + 1 + s1) b0 b1 b2 v0 v1 v2 W := h
          clear hnd
          have HST := Lib.hid h
          obtain ⟨t0, t1, t2, t3, t4⟩ := h.cells
          intro K Q hK
          simp only [putE, updAll, Act.put, List.setIfInBounds_toArray, List.set_cons_zero, List.set_cons_succ, List.set_nil] at hK ⊢
          go_wp2_with (fail)
          all_goals (first | exact hK _ (by first | exact h | exact h.step (by repeat' (first | exact Below.refl _ _ | apply bDrewN | apply bDrew))) | exact (by first | exact h | exact h.step (by repeat' (first | exact Below.refl _ _ | apply bDrewN | apply bDrew))))
        · refine ⟨38, (.int .u8 s1), rfl, by kernel_rfl, ?_⟩
          intro bsE vsE W hlb hlv hnd h
          obtain ⟨b0, bsE0, rfl, hlb0⟩ := len_one hlb
          obtain ⟨v0, vsE0, rfl, hlv0⟩ := len_one hlv
          obtain ⟨b1, bsE1, rfl, hlb1⟩ := len_one hlb0
          obtain ⟨v1, vsE1, rfl, hlv1⟩ := len_one hlv0
          obtain ⟨b2, bsE2, rfl, hlb2⟩ := len_one hlb1
          obtain ⟨v2, vsE2, rfl, hlv2⟩ := len_one hlv1
          obtain rfl := len_nil hlb2
          obtain rfl := len_nil hlv2
          replace h : StV w w.heap.size (w.heap.size + 3) w.heap.size #[(.slice (some ⟨gx, 0, none⟩) (k + 1) cx), (.slice (some ⟨gy, 0, none⟩) (k + 1) cy)] (.slice (some ⟨gx, 0, none⟩) (k + 1) cx) RX (.slice (some ⟨gy, 0, none⟩) (k + 1) cy) RY x (x + 1 + s1) b0 b1 b2 v0 v1 v2 W := h
          clear hnd
          have HST := Lib.hid h
          have hst := cell_keep E1.out h.mq.bel
          intro K Q hK
          simp only [putE, updAll, Act.put, List.setIfInBounds_toArray, List.set_cons_zero, List.set_cons_succ, List.set_nil] at hK ⊢
          go_wp2_with (fail)
          all_goals (first | exact hK _ (by first | exact h | exact h.step (by repeat' (first | exact Below.refl _ _ | apply bDrewN | apply bDrew))) | exact (by first | exact h | exact h.step (by repeat' (first | exact Below.refl _ _ | apply bDrewN | apply bDrew))))
        · refine ⟨39, (.int .i64 s1), rfl, by kernel_rfl, ?_⟩
          intro bsE vsE W hlb hlv hnd h
          obtain ⟨b0, bsE0, rfl, hlb0⟩ := len_one hlb
          obtain ⟨v0, vsE0, rfl, hlv0⟩ := len_one hlv
          obtain ⟨b1, bsE1, rfl, hlb1⟩ := len_one hlb0
          obtain ⟨v1, vsE1, rfl, hlv1⟩ := len_one hlv0
          obtain ⟨b2, bsE2, rfl, hlb2⟩ := len_one hlb1
          obtain ⟨v2, vsE2, rfl, hlv2⟩ := len_one hlv1
          obtain rfl := len_nil hlb2
          obtain rfl := len_nil hlv2
          replace h : StV w w.heap.size (w.heap.size + 3) w.heap.size #[(.slice (some ⟨gx, 0, none⟩) (k + 1) cx), (.slice (some ⟨gy, 0, none⟩) (k + 1) cy)] (.slice (some ⟨gx, 0, none⟩) (k + 1) cx) RX (.slice (some ⟨gy, 0, none⟩) (k + 1) cy) RY x (x + 1 + s1) b0 b1 b2 v0 v1 v2 W := h
          clear hnd
          have HST := Lib.hid h
          obtain ⟨t0, t1, t2, t3, t4⟩ := h.cells
          intro K Q hK
          simp only [putE, updAll, Act.put, List.setIfInBounds_toArray, List.set_cons_zero, List.set_cons_succ, List.set_nil] at hK ⊢
          go_wp2_with (fail)
          all_goals (first | exact hK _ (by first | exact h | exact h.step (by repeat' (first | exact Below.refl _ _ | apply bDrewN | apply bDrew))) | exact (by first | exact h | exact h.step (by repeat' (first | exact Below.refl _ _ | apply bDrewN | apply bDrew))))
        · refine ⟨40, (.int .i64 (x + 1 + s1)), rfl, by kernel_rfl, ?_⟩
          intro bsE vsE W hlb hlv hnd h
          obtain ⟨b0, bsE0, rfl, hlb0⟩ := len_one hlb
          obtain ⟨v0, vsE0, rfl, hlv0⟩ := len_one hlv
          obtain ⟨b1, bsE1, rfl, hlb1⟩ := len_one hlb0
          obtain ⟨v1, vsE1, rfl, hlv1⟩ := len_one hlv0
          obtain ⟨b2, bsE2, rfl, hlb2⟩ := len_one hlb1
          obtain ⟨v2, vsE2, rfl, hlv2⟩ := len_one hlv1
          obtain rfl := len_nil hlb2
          obtain rfl := len_nil hlv2
          replace h : StV w w.heap.size (w.heap.size + 3) w.heap.size #[(.slice (some ⟨gx, 0, none⟩) (k + 1) cx), (.slice (some ⟨gy, 0, none⟩) (k + 1) cy)] (.slice (some ⟨gx, 0, none⟩) (k + 1) cx) RX (.slice (some ⟨gy, 0, none⟩) (k + 1) cy) RY x (x + 1 + s1) b0 b1 b2 v0 v1 v2 W := h
          clear hnd
          have HST := Lib.hid h
          obtain ⟨t0, t1, t2, t3, t4⟩ := h.cells
          intro K Q hK
          simp only [putE, updAll, Act.put, List.setIfInBounds_toArray, List.set_cons_zero, List.set_cons_succ, List.set_nil] at hK ⊢
          go_wp2_with (fail)
          all_goals (first | exact hK _ (by first | exact h | exact h.step (by repeat' (first | exact Below.refl _ _ | apply bDrewN | apply bDrew))) | exact (by first | exact h | exact h.step (by repeat' (first | exact Below.refl _ _ | apply bDrewN | apply bDrew))))
        · refine ⟨41, rfl, ?_⟩
          intro bsE vsE W hlb hlv hnd hbk h
          obtain ⟨b0, bsE0, rfl, hlb0⟩ := len_one hlb
          obtain ⟨v0, vsE0, rfl, hlv0⟩ := len_one hlv
          obtain ⟨b1, bsE1, rfl, hlb1⟩ := len_one hlb0
          obtain ⟨v1, vsE1, rfl, hlv1⟩ := len_one hlv0
          obtain ⟨b2, bsE2, rfl, hlb2⟩ := len_one hlb1
          obtain ⟨v2, vsE2, rfl, hlv2⟩ := len_one hlv1
          obtain rfl := len_nil hlb2
          obtain rfl := len_nil hlv2
          obtain rfl : b0 = true := hnd 0 (by simp)
          obtain rfl : b1 = false := hbk
          replace h : StV w w.heap.size (w.heap.size + 3) w.heap.size #[(.slice (some ⟨gx, 0, none⟩) (k + 1) cx), (.slice (some ⟨gy, 0, none⟩) (k + 1) cy)] (.slice (some ⟨gx, 0, none⟩) (k + 1) cx) RX (.slice (some ⟨gy, 0, none⟩) (k + 1) cy) RY x (x + 1 + s1) true false b2 v0 v1 v2 W := h
          clear hnd
          have HST := Lib.hid h
          obtain ⟨t0, t1, t2, t3, t4⟩ := h.cells
          intro K Q hK
          simp only [putE, updAll, Act.put, List.setIfInBounds_toArray, List.set_cons_zero, List.set_cons_succ, List.set_nil] at hK ⊢
          go_wp2_with fail
          all_goals (first | exact hK _ _ h.built | exact h.built)
        · refine ⟨42, rfl, ?_⟩
          intro bsE vsE W hlb hlv hnd hbk h
          obtain ⟨b0, bsE0, rfl, hlb0⟩ := len_one hlb
          obtain ⟨v0, vsE0, rfl, hlv0⟩ := len_one hlv
          obtain ⟨b1, bsE1, rfl, hlb1⟩ := len_one hlb0
          obtain ⟨v1, vsE1, rfl, hlv1⟩ := len_one hlv0
          obtain ⟨b2, bsE2, rfl, hlb2⟩ := len_one hlb1
          obtain ⟨v2, vsE2, rfl, hlv2⟩ := len_one hlv1
          obtain rfl := len_nil hlb2
          obtain rfl := len_nil hlv2
          obtain rfl : b0 = true := hnd 0 (by simp)
          obtain rfl : b1 = true := hnd 1 (by simp)
          obtain rfl : b2 = false := hbk
          replace h : StV w w.heap.size (w.heap.size + 3) w.heap.size #[(.slice (some ⟨gx, 0, none⟩) (k + 1) cx), (.slice (some ⟨gy, 0, none⟩) (k + 1) cy)] (.slice (some ⟨gx, 0, none⟩) (k + 1) cx) RX (.slice (some ⟨gy, 0, none⟩) (k + 1) cy) RY x (x + 1 + s1) true true false v0 v1 v2 W := h
          clear hnd
          have HST := Lib.hid h
          obtain ⟨a0, c0, e0, hat0⟩ := IntOwn.row h.src; subst e0; have hsz := h.mq.sz; have hown := h.own
          intro K Q hK
          simp only [putE, updAll, Act.put, List.setIfInBounds_toArray, List.set_cons_zero, List.set_cons_succ, List.set_nil] at hK ⊢
          refine wp_app_copy _ (.tmp 27) (.tmp 41) rfl _ rfl w.heap.size _ hown a0 [(x + 1 + s1)] c0 rfl hat0 (by have := HLN.out; simp; omega) hsz ?_
          intro v' w' ho hg hat
          first | exact hK _ _ (h.added ho hg hat) | exact h.added ho hg hat
        · refine ⟨43, (.pointer (some ⟨(w.heap.size + 3), 0, none⟩)), rfl, by kernel_rfl, ?_⟩
          intro bsE vsE W hlb hlv hnd h
          obtain ⟨b0, bsE0, rfl, hlb0⟩ := len_one hlb
          obtain ⟨v0, vsE0, rfl, hlv0⟩ := len_one hlv
          obtain ⟨b1, bsE1, rfl, hlb1⟩ := len_one hlb0
          obtain ⟨v1, vsE1, rfl, hlv1⟩ := len_one hlv0
          obtain ⟨b2, bsE2, rfl, hlb2⟩ := len_one hlb1
          obtain ⟨v2, vsE2, rfl, hlv2⟩ := len_one hlv1
          obtain rfl := len_nil hlb2
          obtain rfl := len_nil hlv2
          replace h : StV w w.heap.size (w.heap.size + 3) w.heap.size #[(.slice (some ⟨gx, 0, none⟩) (k + 1) cx), (.slice (some ⟨gy, 0, none⟩) (k + 1) cy)] (.slice (some ⟨gx, 0, none⟩) (k + 1) cx) RX (.slice (some ⟨gy, 0, none⟩) (k + 1) cy) RY x (x + 1 + s1) b0 b1 b2 v0 v1 v2 W := h
          clear hnd
          have HST := Lib.hid h
          obtain ⟨t0, t1, t2, t3, t4⟩ := h.cells
          intro K Q hK
          simp only [putE, updAll, Act.put, List.setIfInBounds_toArray, List.set_cons_zero, List.set_cons_succ, List.set_nil] at hK ⊢
          go_wp2_with (fail)
          all_goals (first | exact hK _ (by first | exact h | exact h.step (by repeat' (first | exact Below.refl _ _ | apply bDrewN | apply bDrew))) | exact (by first | exact h | exact h.step (by repeat' (first | exact Below.refl _ _ | apply bDrewN | apply bDrew))))
      case tail =>
        intro vsE W hlv h
        obtain ⟨v0, vsE0, rfl, hlv0⟩ := len_one hlv
        obtain ⟨v1, vsE1, rfl, hlv1⟩ := len_one hlv0
        obtain ⟨v2, vsE2, rfl, hlv2⟩ := len_one hlv1
        obtain rfl := len_nil hlv2
        replace h : StV w w.heap.size (w.heap.size + 3) w.heap.size #[(.slice (some ⟨gx, 0, none⟩) (k + 1) cx), (.slice (some ⟨gy, 0, none⟩) (k + 1) cy)] (.slice (some ⟨gx, 0, none⟩) (k + 1) cx) RX (.slice (some ⟨gy, 0, none⟩) (k + 1) cy) RY x (x + 1 + s1) true true true v0 v1 v2 W := h
        have HST := Lib.hid h
        obtain ⟨t0, t1, t2, t3, t4⟩ := h.cells
        obtain ⟨gx2, cx2, ex2, -, -⟩ := IntOwn.blk (h.mq.own 0 _ _ updF_at) (by simp)
        rw [show (RX ++ [x + 1 + s1]).length = k + 1 + 1 by have := HLX.out; simp; omega] at ex2
        subst ex2
        have P1 := Lib.hid (h.fin (o := 0)).swap
        refine wpOp_plain rfl rfl ?_
        simp only [putE, updAll, Act.put, List.setIfInBounds_toArray, List.set_cons_zero, List.set_cons_succ, List.set_nil]
        go_upto_region 6 with fail
        clear P0 h HST
        refine region_effs 17 16 [(6, 50), (14, 58), (15, 59)] [(none, []), (none, []), (none, []), (none, []), (none, []), (none, []), (some 0, []), (none, []), (none, []), (none, []), (none, []), (none, []), (none, []), (none, [0]), (some 1, [0]), (some 2, [0, 1]), (none, [])] [(44, (.pointer (some ⟨(w.heap.size + 3), 1, none⟩))), (45, (.slice (some ⟨gy, 0, none⟩) (k + 1) cy)), (46, (.pointer (some ⟨(w.heap.size + 3), 1, none⟩))), (47, (.slice (some ⟨gy, 0, none⟩) (k + 1) cy)), (48, (.int .i64 (k : Int))), (49, (.pointer (some ⟨gy, k, none⟩))), (51, (.slice (some ⟨b, off, none⟩) l.length c)), (52, (.int .i64 (k : Int))), (53, (.pointer (some ⟨b, off + k * 2, none⟩))), (54, (.pointer (some ⟨b, off + k * 2 + 1, none⟩))), (55, (.int .u8 s2)), (56, (.int .i64 s2)), (57, (.int .i64 (y + s2))), (60, (.pointer (some ⟨(w.heap.size + 3), 1, none⟩)))] (fun bsE vsE W => StV w w.heap.size (w.heap.size + 3) w.heap.size #[(.slice (some ⟨gx2, 0, none⟩) (k + 1 + 1) cx2), (.slice (some ⟨gy, 0, none⟩) (k + 1) cy)] (.slice (some ⟨gy, 0, none⟩) (k + 1) cy) RY (.slice (some ⟨gx2, 0, none⟩) (k + 1 + 1) cx2) (RX ++ [x + 1 + s1]) y (y + s2) (bsE.getD 0 false) (bsE.getD 1 false) (bsE.getD 2 false) (vsE.getD 0 undef) (vsE.getD 1 undef) (vsE.getD 2 undef) W) (by kernel_rfl) (by kernel_rfl) rfl (by kernel_rfl) (by kernel_rfl) (by simp) (by rfl) ?h0 ?each ?tail
        case h0 =>
          intro vsE hlv
          obtain ⟨v0, vsE0, rfl, hlv0⟩ := len_one hlv
          obtain ⟨v1, vsE1, rfl, hlv1⟩ := len_one hlv0
          obtain ⟨v2, vsE2, rfl, hlv2⟩ := len_one hlv1
          obtain rfl := len_nil hlv2
          exact P1.out.start.step (by repeat' (first | exact Below.refl _ _ | apply bDrewN | apply bDrew))
        case each =>
          simp only [List.take_succ_cons, List.take_zero, AllE]
          refine ⟨?_, ?_, ?_, ?_, ?_, ?_, ?_, ?_, ?_, ?_, ?_, ?_, ?_, ?_, ?_, ?_, ?_, trivial⟩
          · refine ⟨44, (.pointer (some ⟨(w.heap.size + 3), 1, none⟩)), rfl, by kernel_rfl, ?_⟩
            intro bsE vsE W hlb hlv hnd h
            obtain ⟨b0, bsE0, rfl, hlb0⟩ := len_one hlb
            obtain ⟨v0, vsE0, rfl, hlv0⟩ := len_one hlv
            obtain ⟨b1, bsE1, rfl, hlb1⟩ := len_one hlb0
            obtain ⟨v1, vsE1, rfl, hlv1⟩ := len_one hlv0
            obtain ⟨b2, bsE2, rfl, hlb2⟩ := len_one hlb1
            obtain ⟨v2, vsE2, rfl, hlv2⟩ := len_one hlv1
            obtain rfl := len_nil hlb2
            obtain rfl := len_nil hlv2
            replace h : StV w w.heap.size (w.heap.size + 3) w.heap.size #[(.slice (some ⟨gx2, 0, none⟩) (k + 1 + 1) cx2), (.slice (some ⟨gy, 0, none⟩) (k + 1) cy)] (.slice (some ⟨gy, 0, none⟩) (k + 1) cy) RY (.slice (some ⟨gx2, 0, none⟩) (k + 1 + 1) cx2) (RX ++ [x + 1 + s1]) y (y + s2) b0 b1 b2 v0 v1 v2 W := h
            clear hnd
            have HST := Lib.hid h
            obtain ⟨t0, t1, t2, t3, t4⟩ := h.cells
            intro K Q hK
            simp only [putE, updAll, Act.put, List.setIfInBounds_toArray, List.set_cons_zero, List.set_cons_succ, List.set_nil] at hK ⊢
            go_wp2_with (fail)
            all_goals (first | exact hK _ (by first | exact h | exact h.step (by repeat' (first | exact Below.refl _ _ | apply bDrewN | apply bDrew))) | exact (by first | exact h | exact h.step (by repeat' (first | exact Below.refl _ _ | apply bDrewN | apply bDrew))))
          · refine ⟨45, (.slice (some ⟨gy, 0, none⟩) (k + 1) cy), rfl, by kernel_rfl, ?_⟩
            intro bsE vsE W hlb hlv hnd h
            obtain ⟨b0, bsE0, rfl, hlb0⟩ := len_one hlb
            obtain ⟨v0, vsE0, rfl, hlv0⟩ := len_one hlv
            obtain ⟨b1, bsE1, rfl, hlb1⟩ := len_one hlb0
            obtain ⟨v1, vsE1, rfl, hlv1⟩ := len_one hlv0
            obtain ⟨b2, bsE2, rfl, hlb2⟩ := len_one hlb1
            obtain ⟨v2, vsE2, rfl, hlv2⟩ := len_one hlv1
            obtain rfl := len_nil hlb2
            obtain rfl := len_nil hlv2
            replace h : StV w w.heap.size (w.heap.size + 3) w.heap.size #[(.slice (some ⟨gx2, 0, none⟩) (k + 1 + 1) cx2), (.slice (some ⟨gy, 0, none⟩) (k + 1) cy)] (.slice (some ⟨gy, 0, none⟩) (k + 1) cy) RY (.slice (some ⟨gx2, 0, none⟩) (k + 1 + 1) cx2) (RX ++ [x + 1 + s1]) y (y + s2) b0 b1 b2 v0 v1 v2 W := h
            clear hnd
            have HST := Lib.hid h
            obtain ⟨t0, t1, t2, t3, t4⟩ := h.cells
            intro K Q hK
            simp only [putE, updAll, Act.put, List.setIfInBounds_toArray, List.set_cons_zero, List.set_cons_succ, List.set_nil] at hK ⊢
            go_wp2_with (fail)
            all_goals (first | exact hK _ (by first | exact h | exact h.step (by repeat' (first | exact Below.refl _ _ | apply bDrewN | apply bDrew))) | exact (by first | exact h | exact h.step (by repeat' (first | exact Below.refl _ _ | apply bDrewN | apply bDrew))))
          · refine ⟨46, (.pointer (some ⟨(w.heap.size + 3), 1, none⟩)), rfl, by kernel_rfl, ?_⟩
            intro bsE vsE W hlb hlv hnd h
            obtain ⟨b0, bsE0, rfl, hlb0⟩ := len_one hlb
            obtain ⟨v0, vsE0, rfl, hlv0⟩ := len_one hlv
            obtain ⟨b1, bsE1, rfl, hlb1⟩ := len_one hlb0
            obtain ⟨v1, vsE1, rfl, hlv1⟩ := len_one hlv0
            obtain ⟨b2, bsE2, rfl, hlb2⟩ := len_one hlb1
            obtain ⟨v2, vsE2, rfl, hlv2⟩ := len_one hlv1
            obtain rfl := len_nil hlb2
            obtain rfl := len_nil hlv2
            replace h : StV w w.heap.size (w.heap.size + 3) w.heap.size #[(.slice (some ⟨gx2, 0, none⟩) (k + 1 + 1) cx2), (.slice (some ⟨gy, 0, none⟩) (k + 1) cy)] (.slice (some ⟨gy, 0, none⟩) (k + 1) cy) RY (.slice (some ⟨gx2, 0, none⟩) (k + 1 + 1) cx2) (RX ++ [x + 1 + s1]) y (y + s2) b0 b1 b2 v0 v1 v2 W := h
            clear hnd
            have HST := Lib.hid h
            obtain ⟨t0, t1, t2, t3, t4⟩ := h.cells
            intro K Q hK
            simp only [putE, updAll, Act.put, List.setIfInBounds_toArray, List.set_cons_zero, List.set_cons_succ, List.set_nil] at hK ⊢
            go_wp2_with (fail)
            all_goals (first | exact hK _ (by first | exact h | exact h.step (by repeat' (first | exact Below.refl _ _ | apply bDrewN | apply bDrew))) | exact (by first | exact h | exact h.step (by repeat' (first | exact Below.refl _ _ | apply bDrewN | apply bDrew))))
          · refine ⟨47, (.slice (some ⟨gy, 0, none⟩) (k + 1) cy), rfl, by kernel_rfl, ?_⟩
            intro bsE vsE W hlb hlv hnd h
            obtain ⟨b0, bsE0, rfl, hlb0⟩ := len_one hlb
            obtain ⟨v0, vsE0, rfl, hlv0⟩ := len_one hlv
            obtain ⟨b1, bsE1, rfl, hlb1⟩ := len_one hlb0
            obtain ⟨v1, vsE1, rfl, hlv1⟩ := len_one hlv0
            obtain ⟨b2, bsE2, rfl, hlb2⟩ := len_one hlb1
            obtain ⟨v2, vsE2, rfl, hlv2⟩ := len_one hlv1
            obtain rfl := len_nil hlb2
            obtain rfl := len_nil hlv2
            replace h : StV w w.heap.size (w.heap.size + 3) w.heap.size #[(.slice (some ⟨gx2, 0, none⟩) (k + 1 + 1) cx2), (.slice (some ⟨gy, 0, none⟩) (k + 1) cy)] (.slice (some ⟨gy, 0, none⟩) (k + 1) cy) RY (.slice (some ⟨gx2, 0, none⟩) (k + 1 + 1) cx2) (RX ++ [x + 1 + s1]) y (y + s2) b0 b1 b2 v0 v1 v2 W := h
            clear hnd
            have HST := Lib.hid h
            obtain ⟨t0, t1, t2, t3, t4⟩ := h.cells
            intro K Q hK
            simp only [putE, updAll, Act.put, List.setIfInBounds_toArray, List.set_cons_zero, List.set_cons_succ, List.set_nil] at hK ⊢
            go_wp2_with (fail)
            all_goals (first | exact hK _ (by first | exact h | exact h.step (by repeat' (first | exact Below.refl _ _ | apply bDrewN | apply bDrew))) | exact (by first | exact h | exact h.step (by repeat' (first | exact Below.refl _ _ | apply bDrewN | apply bDrew))))
          · refine ⟨48, (.int .i64 (k : Int)), rfl, by kernel_rfl, ?_⟩
            intro bsE vsE W hlb hlv hnd h
            obtain ⟨b0, bsE0, rfl, hlb0⟩ := len_one hlb
            obtain ⟨v0, vsE0, rfl, hlv0⟩ := len_one hlv
            obtain ⟨b1, bsE1, rfl, hlb1⟩ := len_one hlb0
            obtain ⟨v1, vsE1, rfl, hlv1⟩ := len_one hlv0
            obtain ⟨b2, bsE2, rfl, hlb2⟩ := len_one hlb1
            obtain ⟨v2, vsE2, rfl, hlv2⟩ := len_one hlv1
            obtain rfl := len_nil hlb2
            obtain rfl := len_nil hlv2
            replace h : StV w w.heap.size (w.heap.size + 3) w.heap.size #[(.slice (some ⟨gx2, 0, none⟩) (k + 1 + 1) cx2), (.slice (some ⟨gy, 0, none⟩) (k + 1) cy)] (.slice (some ⟨gy, 0, none⟩) (k + 1) cy) RY (.slice (some ⟨gx2, 0, none⟩) (k + 1 + 1) cx2) (RX ++ [x + 1 + s1]) y (y + s2) b0 b1 b2 v0 v1 v2 W := h
            clear hnd
            have HST := Lib.hid h
            obtain ⟨t0, t1, t2, t3, t4⟩ := h.cells
            intro K Q hK
            simp only [putE, updAll, Act.put, List.setIfInBounds_toArray, List.set_cons_zero, List.set_cons_succ, List.set_nil] at hK ⊢
            go_wp2_with (fail)
            all_goals (first | exact hK _ (by first | exact h | exact h.step (by repeat' (first | exact Below.refl _ _ | apply bDrewN | apply bDrew))) | exact (by first | exact h | exact h.step (by repeat' (first | exact Below.refl _ _ | apply bDrewN | apply bDrew))))
          · refine ⟨49, (.pointer (some ⟨gy, k, none⟩)), rfl, by kernel_rfl, ?_⟩
            intro bsE vsE W hlb hlv hnd h
            obtain ⟨b0, bsE0, rfl, hlb0⟩ := len_one hlb
            obtain ⟨v0, vsE0, rfl, hlv0⟩ := len_one hlv
            obtain ⟨b1, bsE1, rfl, hlb1⟩ := len_one hlb0
            obtain ⟨v1, vsE1, rfl, hlv1⟩ := len_one hlv0
            obtain ⟨b2, bsE2, rfl, hlb2⟩ := len_one hlb1
            obtain ⟨v2, vsE2, rfl, hlv2⟩ := len_one hlv1
            obtain rfl := len_nil hlb2
            obtain rfl := len_nil hlv2
            replace h : StV w w.heap.size (w.heap.size + 3) w.heap.size #[(.slice (some ⟨gx2, 0, none⟩) (k + 1 + 1) cx2), (.slice (some ⟨gy, 0, none⟩) (k + 1) cy)] (.slice (some ⟨gy, 0, none⟩) (k + 1) cy) RY (.slice (some ⟨gx2, 0, none⟩) (k + 1 + 1) cx2) (RX ++ [x + 1 + s1]) y (y + s2) b0 b1 b2 v0 v1 v2 W := h
            clear hnd
            have HST := Lib.hid h
            obtain ⟨t0, t1, t2, t3, t4⟩ := h.cells
            intro K Q hK
            simp only [putE, updAll, Act.put, List.setIfInBounds_toArray, List.set_cons_zero, List.set_cons_succ, List.set_nil] at hK ⊢
            go_wp2_with (fail)
            all_goals (first | exact hK _ (by first | exact h | exact h.step (by repeat' (first | exact Below.refl _ _ | apply bDrewN | apply bDrew))) | exact (by first | exact h | exact h.step (by repeat' (first | exact Below.refl _ _ | apply bDrewN | apply bDrew))))
          · refine ⟨50, rfl, ?_⟩
            intro bsE vsE W hlb hlv hnd hbk h
            obtain ⟨b0, bsE0, rfl, hlb0⟩ := len_one hlb
            obtain ⟨v0, vsE0, rfl, hlv0⟩ := len_one hlv
            obtain ⟨b1, bsE1, rfl, hlb1⟩ := len_one hlb0
            obtain ⟨v1, vsE1, rfl, hlv1⟩ := len_one hlv0
            obtain ⟨b2, bsE2, rfl, hlb2⟩ := len_one hlb1
            obtain ⟨v2, vsE2, rfl, hlv2⟩ := len_one hlv1
            obtain rfl := len_nil hlb2
            obtain rfl := len_nil hlv2
            obtain rfl : b0 = false := hbk
            replace h : StV w w.heap.size (w.heap.size + 3) w.heap.size #[(.slice (some ⟨gx2, 0, none⟩) (k + 1 + 1) cx2), (.slice (some ⟨gy, 0, none⟩) (k + 1) cy)] (.slice (some ⟨gy, 0, none⟩) (k + 1) cy) RY (.slice (some ⟨gx2, 0, none⟩) (k + 1 + 1) cx2) (RX ++ [x + 1 + s1]) y (y + s2) false b1 b2 v0 v1 v2 W := h
            clear hnd
            have HST := Lib.hid h
            have hrd := h.rd hky HYY.out
            intro K Q hK
            simp only [putE, updAll, Act.put, List.setIfInBounds_toArray, List.set_cons_zero, List.set_cons_succ, List.set_nil] at hK ⊢
            go_wp2_with fail
            all_goals (first | exact hK _ _ h.load | exact h.load)
          · refine ⟨51, (.slice (some ⟨b, off, none⟩) l.length c), rfl, by kernel_rfl, ?_⟩
            intro bsE vsE W hlb hlv hnd h
            obtain ⟨b0, bsE0, rfl, hlb0⟩ := len_one hlb
            obtain ⟨v0, vsE0, rfl, hlv0⟩ := len_one hlv
            obtain ⟨b1, bsE1, rfl, hlb1⟩ := len_one hlb0
            obtain ⟨v1, vsE1, rfl, hlv1⟩ := len_one hlv0
            obtain ⟨b2, bsE2, rfl, hlb2⟩ := len_one hlb1
            obtain ⟨v2, vsE2, rfl, hlv2⟩ := len_one hlv1
            obtain rfl := len_nil hlb2
            obtain rfl := len_nil hlv2
            replace h : StV w w.heap.size (w.heap.size + 3) w.heap.size #[(.slice (some ⟨gx2, 0, none⟩) (k + 1 + 1) cx2), (.slice (some ⟨gy, 0, none⟩) (k + 1) cy)] (.slice (some ⟨gy, 0, none⟩) (k + 1) cy) RY (.slice (some ⟨gx2, 0, none⟩) (k + 1 + 1) cx2) (RX ++ [x + 1 + s1]) y (y + s2) b0 b1 b2 v0 v1 v2 W := h
            clear hnd
            have HST := Lib.hid h
            obtain ⟨t0, t1, t2, t3, t4⟩ := h.cells
            intro K Q hK
            simp only [putE, updAll, Act.put, List.setIfInBounds_toArray, List.set_cons_zero, List.set_cons_succ, List.set_nil] at hK ⊢
            go_wp2_with (fail)
            all_goals (first | exact hK _ (by first | exact h | exact h.step (by repeat' (first | exact Below.refl _ _ | apply bDrewN | apply bDrew))) | exact (by first | exact h | exact h.step (by repeat' (first | exact Below.refl _ _ | apply bDrewN | apply bDrew))))
          · refine ⟨52, (.int .i64 (k : Int)), rfl, by kernel_rfl, ?_⟩
            intro bsE vsE W hlb hlv hnd h
            obtain ⟨b0, bsE0, rfl, hlb0⟩ := len_one hlb
            obtain ⟨v0, vsE0, rfl, hlv0⟩ := len_one hlv
            obtain ⟨b1, bsE1, rfl, hlb1⟩ := len_one hlb0
            obtain ⟨v1, vsE1, rfl, hlv1⟩ := len_one hlv0
            obtain ⟨b2, bsE2, rfl, hlb2⟩ := len_one hlb1
            obtain ⟨v2, vsE2, rfl, hlv2⟩ := len_one hlv1
            obtain rfl := len_nil hlb2
            obtain rfl := len_nil hlv2
            replace h : StV w w.heap.size (w.heap.size + 3) w.heap.size #[(.slice (some ⟨gx2, 0, none⟩) (k + 1 + 1) cx2), (.slice (some ⟨gy, 0, none⟩) (k + 1) cy)] (.slice (some ⟨gy, 0, none⟩) (k + 1) cy) RY (.slice (some ⟨gx2, 0, none⟩) (k + 1 + 1) cx2) (RX ++ [x + 1 + s1]) y (y + s2) b0 b1 b2 v0 v1 v2 W := h
            clear hnd
            have HST := Lib.hid h
            obtain ⟨t0, t1, t2, t3, t4⟩ := h.cells
            intro K Q hK
            simp only [putE, updAll, Act.put, List.setIfInBounds_toArray, List.set_cons_zero, List.set_cons_succ, List.set_nil] at hK ⊢
            go_wp2_with (fail)
            all_goals (first | exact hK _ (by first | exact h | exact h.step (by repeat' (first | exact Below.refl _ _ | apply bDrewN | apply bDrew))) | exact (by first | exact h | exact h.step (by repeat' (first | exact Below.refl _ _ | apply bDrewN | apply bDrew))))
          · refine ⟨53, (.pointer (some ⟨b, off + k * 2, none⟩)), rfl, by kernel_rfl, ?_⟩
            intro bsE vsE W hlb hlv hnd h
            obtain ⟨b0, bsE0, rfl, hlb0⟩ := len_one hlb
            obtain ⟨v0, vsE0, rfl, hlv0⟩ := len_one hlv
            obtain ⟨b1, bsE1, rfl, hlb1⟩ := len_one hlb0
            obtain ⟨v1, vsE1, rfl, hlv1⟩ := len_one hlv0
            obtain ⟨b2, bsE2, rfl, hlb2⟩ := len_one hlb1
            obtain ⟨v2, vsE2, rfl, hlv2⟩ := len_one hlv1
            obtain rfl := len_nil hlb2
            obtain rfl := len_nil hlv2
            replace h : StV w w.heap.size (w.heap.size + 3) w.heap.size #[(.slice (some ⟨gx2, 0, none⟩) (k + 1 + 1) cx2), (.slice (some ⟨gy, 0, none⟩) (k + 1) cy)] (.slice (some ⟨gy, 0, none⟩) (k + 1) cy) RY (.slice (some ⟨gx2, 0, none⟩) (k + 1 + 1) cx2) (RX ++ [x + 1 + s1]) y (y + s2) b0 b1 b2 v0 v1 v2 W := h
            clear hnd
            have HST := Lib.hid h
            obtain ⟨t0, t1, t2, t3, t4⟩ := h.cells
            intro K Q hK
            simp only [putE, updAll, Act.put, List.setIfInBounds_toArray, List.set_cons_zero, List.set_cons_succ, List.set_nil] at hK ⊢
            go_wp2_with (fail)
            all_goals (first | exact hK _ (by first | exact h | exact h.step (by repeat' (first | exact Below.refl _ _ | apply bDrewN | apply bDrew))) | exact (by first | exact h | exact h.step (by repeat' (first | exact Below.refl _ _ | apply bDrewN | apply bDrew))))
          · refine ⟨54, (.pointer (some ⟨b, off + k * 2 + 1, none⟩)), rfl, by kernel_rfl, ?_⟩
            intro bsE vsE W hlb hlv hnd h
            obtain ⟨b0, bsE0, rfl, hlb0⟩ := len_one hlb
            obtain ⟨v0, vsE0, rfl, hlv0⟩ := len_one hlv
            obtain ⟨b1, bsE1, rfl, hlb1⟩ := len_one hlb0
            obtain ⟨v1, vsE1, rfl, hlv1⟩ := len_one hlv0
            obtain ⟨b2, bsE2, rfl, hlb2⟩ := len_one hlb1
            obtain ⟨v2, vsE2, rfl, hlv2⟩ := len_one hlv1
            obtain rfl := len_nil hlb2
            obtain rfl := len_nil hlv2
            replace h : StV w w.heap.size (w.heap.size + 3) w.heap.size #[(.slice (some ⟨gx2, 0, none⟩) (k + 1 + 1) cx2), (.slice (some ⟨gy, 0, none⟩) (k + 1) cy)] (.slice (some ⟨gy, 0, none⟩) (k + 1) cy) RY (.slice (some ⟨gx2, 0, none⟩) (k + 1 + 1) cx2) (RX ++ [x + 1 + s1]) y (y + s2) b0 b1 b2 v0 v1 v2 W := h
            clear hnd
            have HST := Lib.hid h
            obtain ⟨t0, t1, t2, t3, t4⟩ := h.cells
            intro K Q hK
            simp only [putE, updAll, Act.put, List.setIfInBounds_toArray, List.set_cons_zero, List.set_cons_succ, List.set_nil] at hK ⊢
            go_wp2_with (fail)
            all_goals (first | exact hK _ (by first | exact h | exact h.step (by repeat' (first | exact Below.refl _ _ | apply bDrewN | apply bDrew))) | exact (by first | exact h | exact h.step (by repeat' (first | exact Below.refl _ _ | apply bDrewN | apply bDrew))))
          · refine ⟨55, (.int .u8 s2), rfl, by kernel_rfl, ?_⟩
            intro bsE vsE W hlb hlv hnd h
            obtain ⟨b0, bsE0, rfl, hlb0⟩ := len_one hlb
            obtain ⟨v0, vsE0, rfl, hlv0⟩ := len_one hlv
            obtain ⟨b1, bsE1, rfl, hlb1⟩ := len_one hlb0
            obtain ⟨v1, vsE1, rfl, hlv1⟩ := len_one hlv0
            obtain ⟨b2, bsE2, rfl, hlb2⟩ := len_one hlb1
            obtain ⟨v2, vsE2, rfl, hlv2⟩ := len_one hlv1
            obtain rfl := len_nil hlb2
            obtain rfl := len_nil hlv2
            replace h : StV w w.heap.size (w.heap.size + 3) w.heap.size #[(.slice (some ⟨gx2, 0, none⟩) (k + 1 + 1) cx2), (.slice (some ⟨gy, 0, none⟩) (k + 1) cy)] (.slice (some ⟨gy, 0, none⟩) (k + 1) cy) RY (.slice (some ⟨gx2, 0, none⟩) (k + 1 + 1) cx2) (RX ++ [x + 1 + s1]) y (y + s2) b0 b1 b2 v0 v1 v2 W := h
            clear hnd
            have HST := Lib.hid h
            have hst := cell_keep E2.out h.mq.bel
            intro K Q hK
            simp only [putE, updAll, Act.put, List.setIfInBounds_toArray, List.set_cons_zero, List.set_cons_succ, List.set_nil] at hK ⊢
            go_wp2_with (fail)
            all_goals (first | exact hK _ (by first | exact h | exact h.step (by repeat' (first | exact Below.refl _ _ | apply bDrewN | apply bDrew))) | exact (by first | exact h | exact h.step (by repeat' (first | exact Below.refl _ _ | apply bDrewN | apply bDrew))))
          · refine ⟨56, (.int .i64 s2), rfl, by kernel_rfl, ?_⟩
            intro bsE vsE W hlb hlv hnd h
            obtain ⟨b0, bsE0, rfl, hlb0⟩ := len_one hlb
            obtain ⟨v0, vsE0, rfl, hlv0⟩ := len_one hlv
            obtain ⟨b1, bsE1, rfl, hlb1⟩ := len_one hlb0
            obtain ⟨v1, vsE1, rfl, hlv1⟩ := len_one hlv0
            obtain ⟨b2, bsE2, rfl, hlb2⟩ := len_one hlb1
            obtain ⟨v2, vsE2, rfl, hlv2⟩ := len_one hlv1
            obtain rfl := len_nil hlb2
            obtain rfl := len_nil hlv2
            replace h : StV w w.heap.size (w.heap.size + 3) w.heap.size #[(.slice (some ⟨gx2, 0, none⟩) (k + 1 + 1) cx2), (.slice (some ⟨gy, 0, none⟩) (k + 1) cy)] (.slice (some ⟨gy, 0, none⟩) (k + 1) cy) RY (.slice (some ⟨gx2, 0, none⟩) (k + 1 + 1) cx2) (RX ++ [x + 1 + s1]) y (y + s2) b0 b1 b2 v0 v1 v2 W := h
            clear hnd
            have HST := Lib.hid h
            obtain ⟨t0, t1, t2, t3, t4⟩ := h.cells
            intro K Q hK
            simp only [putE, updAll, Act.put, List.setIfInBounds_toArray, List.set_cons_zero, List.set_cons_succ, List.set_nil] at hK ⊢
            go_wp2_with (fail)
            all_goals (first | exact hK _ (by first | exact h | exact h.step (by repeat' (first | exact Below.refl _ _ | apply bDrewN | apply bDrew))) | exact (by first | exact h | exact h.step (by repeat' (first | exact Below.refl _ _ | apply bDrewN | apply bDrew))))
          · refine ⟨57, (.int .i64 (y + s2)), rfl, by kernel_rfl, ?_⟩
            intro bsE vsE W hlb hlv hnd h
            obtain ⟨b0, bsE0, rfl, hlb0⟩ := len_one hlb
            obtain ⟨v0, vsE0, rfl, hlv0⟩ := len_one hlv
            obtain ⟨b1, bsE1, rfl, hlb1⟩ := len_one hlb0
            obtain ⟨v1, vsE1, rfl, hlv1⟩ := len_one hlv0
            obtain ⟨b2, bsE2, rfl, hlb2⟩ := len_one hlb1
            obtain ⟨v2, vsE2, rfl, hlv2⟩ := len_one hlv1
            obtain rfl := len_nil hlb2
            obtain rfl := len_nil hlv2
            obtain rfl : b0 = true := hnd 0 (by simp)
            replace h : StV w w.heap.size (w.heap.size + 3) w.heap.size #[(.slice (some ⟨gx2, 0, none⟩) (k + 1 + 1) cx2), (.slice (some ⟨gy, 0, none⟩) (k + 1) cy)] (.slice (some ⟨gy, 0, none⟩) (k + 1) cy) RY (.slice (some ⟨gx2, 0, none⟩) (k + 1 + 1) cx2) (RX ++ [x + 1 + s1]) y (y + s2) true b1 b2 v0 v1 v2 W := h
            clear hnd
            have HST := Lib.hid h
            obtain rfl := h.ld rfl
            intro K Q hK
            simp only [putE, updAll, Act.put, List.setIfInBounds_toArray, List.set_cons_zero, List.set_cons_succ, List.set_nil] at hK ⊢
            go_wp2_with (fail)
            all_goals (first | exact hK _ (by first | exact h | exact h.step (by repeat' (first | exact Below.refl _ _ | apply bDrewN | apply bDrew))) | exact (by first | exact h | exact h.step (by repeat' (first | exact Below.refl _ _ | apply bDrewN | apply bDrew))))
          · refine ⟨58, rfl, ?_⟩
            intro bsE vsE W hlb hlv hnd hbk h
            obtain ⟨b0, bsE0, rfl, hlb0⟩ := len_one hlb
            obtain ⟨v0, vsE0, rfl, hlv0⟩ := len_one hlv
            obtain ⟨b1, bsE1, rfl, hlb1⟩ := len_one hlb0
            obtain ⟨v1, vsE1, rfl, hlv1⟩ := len_one hlv0
            obtain ⟨b2, bsE2, rfl, hlb2⟩ := len_one hlb1
            obtain ⟨v2, vsE2, rfl, hlv2⟩ := len_one hlv1
            obtain rfl := len_nil hlb2
            obtain rfl := len_nil hlv2
            obtain rfl : b0 = true := hnd 0 (by simp)
            obtain rfl : b1 = false := hbk
            replace h : StV w w.heap.size (w.heap.size + 3) w.heap.size #[(.slice (some ⟨gx2, 0, none⟩) (k + 1 + 1) cx2), (.slice (some ⟨gy, 0, none⟩) (k + 1) cy)] (.slice (some ⟨gy, 0, none⟩) (k + 1) cy) RY (.slice (some ⟨gx2, 0, none⟩) (k + 1 + 1) cx2) (RX ++ [x + 1 + s1]) y (y + s2) true false b2 v0 v1 v2 W := h
            clear hnd
            have HST := Lib.hid h
            obtain ⟨t0, t1, t2, t3, t4⟩ := h.cells
            intro K Q hK
            simp only [putE, updAll, Act.put, List.setIfInBounds_toArray, List.set_cons_zero, List.set_cons_succ, List.set_nil] at hK ⊢
            go_wp2_with fail
            all_goals (first | exact hK _ _ h.built | exact h.built)
          · refine ⟨59, rfl, ?_⟩
            intro bsE vsE W hlb hlv hnd hbk h
            obtain ⟨b0, bsE0, rfl, hlb0⟩ := len_one hlb
            obtain ⟨v0, vsE0, rfl, hlv0⟩ := len_one hlv
            obtain ⟨b1, bsE1, rfl, hlb1⟩ := len_one hlb0
            obtain ⟨v1, vsE1, rfl, hlv1⟩ := len_one hlv0
            obtain ⟨b2, bsE2, rfl, hlb2⟩ := len_one hlb1
            obtain ⟨v2, vsE2, rfl, hlv2⟩ := len_one hlv1
            obtain rfl := len_nil hlb2
            obtain rfl := len_nil hlv2
            obtain rfl : b0 = true := hnd 0 (by simp)
            obtain rfl : b1 = true := hnd 1 (by simp)
            obtain rfl : b2 = false := hbk
            replace h : StV w w.heap.size (w.heap.size + 3) w.heap.size #[(.slice (some ⟨gx2, 0, none⟩) (k + 1 + 1) cx2), (.slice (some ⟨gy, 0, none⟩) (k + 1) cy)] (.slice (some ⟨gy, 0, none⟩) (k + 1) cy) RY (.slice (some ⟨gx2, 0, none⟩) (k + 1 + 1) cx2) (RX ++ [x + 1 + s1]) y (y + s2) true true false v0 v1 v2 W := h
            clear hnd
            have HST := Lib.hid h
            obtain ⟨a0, c0, e0, hat0⟩ := IntOwn.row h.src; subst e0; have hsz := h.mq.sz; have hown := h.own
            intro K Q hK
            simp only [putE, updAll, Act.put, List.setIfInBounds_toArray, List.set_cons_zero, List.set_cons_succ, List.set_nil] at hK ⊢
            refine wp_app_copy _ (.tmp 45) (.tmp 58) rfl _ rfl w.heap.size _ hown a0 [(y + s2)] c0 rfl hat0 (by have := HLN.out; simp; omega) hsz ?_
            intro v' w' ho hg hat
            first | exact hK _ _ (h.added ho hg hat) | exact h.added ho hg hat
          · refine ⟨60, (.pointer (some ⟨(w.heap.size + 3), 1, none⟩)), rfl, by kernel_rfl, ?_⟩
            intro bsE vsE W hlb hlv hnd h
            obtain ⟨b0, bsE0, rfl, hlb0⟩ := len_one hlb
            obtain ⟨v0, vsE0, rfl, hlv0⟩ := len_one hlv
            obtain ⟨b1, bsE1, rfl, hlb1⟩ := len_one hlb0
            obtain ⟨v1, vsE1, rfl, hlv1⟩ := len_one hlv0
            obtain ⟨b2, bsE2, rfl, hlb2⟩ := len_one hlb1
            obtain ⟨v2, vsE2, rfl, hlv2⟩ := len_one hlv1
            obtain rfl := len_nil hlb2
            obtain rfl := len_nil hlv2
            replace h : StV w w.heap.size (w.heap.size + 3) w.heap.size #[(.slice (some ⟨gx2, 0, none⟩) (k + 1 + 1) cx2), (.slice (some ⟨gy, 0, none⟩) (k + 1) cy)] (.slice (some ⟨gy, 0, none⟩) (k + 1) cy) RY (.slice (some ⟨gx2, 0, none⟩) (k + 1 + 1) cx2) (RX ++ [x + 1 + s1]) y (y + s2) b0 b1 b2 v0 v1 v2 W := h
            clear hnd
            have HST := Lib.hid h
            obtain ⟨t0, t1, t2, t3, t4⟩ := h.cells
            intro K Q hK
            simp only [putE, updAll, Act.put, List.setIfInBounds_toArray, List.set_cons_zero, List.set_cons_succ, List.set_nil] at hK ⊢
            go_wp2_with (fail)
            all_goals (first | exact hK _ (by first | exact h | exact h.step (by repeat' (first | exact Below.refl _ _ | apply bDrewN | apply bDrew))) | exact (by first | exact h | exact h.step (by repeat' (first | exact Below.refl _ _ | apply bDrewN | apply bDrew))))
        case tail =>
          intro vsE W hlv h
          obtain ⟨v0, vsE0, rfl, hlv0⟩ := len_one hlv
          obtain ⟨v1, vsE1, rfl, hlv1⟩ := len_one hlv0
          obtain ⟨v2, vsE2, rfl, hlv2⟩ := len_one hlv1
          obtain rfl := len_nil hlv2
          replace h : StV w w.heap.size (w.heap.size + 3) w.heap.size #[(.slice (some ⟨gx2, 0, none⟩) (k + 1 + 1) cx2), (.slice (some ⟨gy, 0, none⟩) (k + 1) cy)] (.slice (some ⟨gy, 0, none⟩) (k + 1) cy) RY (.slice (some ⟨gx2, 0, none⟩) (k + 1 + 1) cx2) (RX ++ [x + 1 + s1]) y (y + s2) true true true v0 v1 v2 W := h
          have HST := Lib.hid h
          obtain ⟨t0, t1, t2, t3, t4⟩ := h.cells
          obtain ⟨gy2, cy2, ey2, -, -⟩ := IntOwn.blk (h.mq.own 0 _ _ updF_at) (by simp)
          rw [show (RY ++ [y + s2]).length = k + 1 + 1 by have := HLY.out; simp; omega] at ey2
          subst ey2
          have HF := Lib.hid (h.fin (o := 1)).swap
          refine wpOp_plain rfl rfl ?_
          simp only [putE, updAll, Act.put, List.setIfInBounds_toArray, List.set_cons_zero, List.set_cons_succ, List.set_nil]
          go_wp2_with fail
          go_roundw
          case rel => exact ⟨k + 1, _, _, by omega, by omega, by push_cast; rfl, by unfold Hid; rw [HX.out, HY.out]; exact HF.out⟩
          case measure => (simp [intOf]; omega)
    · have hex : l.length ≤ k ∨ (k < l.length ∧ 20 ≤ k) := by omega
      clear hlt
      rcases Nat.eq_zero_or_pos l.length with hz | hz
      · obtain rfl : k = 0 := by omega
        obtain rfl : l = [] := List.length_eq_zero_iff.1 hz
        clear hex hk hk20 HLX HLY HA HB hl hz
        replace P0 : Hid (CvS w w.heap.size (w.heap.size + 3) w.heap.size #[.slice (some ⟨gx, 0, none⟩) 1 cx, .slice (some ⟨gy, 0, none⟩) 1 cy] (.slice (some ⟨gx, 0, none⟩) 1 cx) (.slice (some ⟨gy, 0, none⟩) 1 cy) [x0] [y0] wr) := P0
        have i2 : ((0 + 1 : Nat) : Int) < 2 := by decide
        replace c0 : wr.cell? ⟨w.heap.size + 3, 0, none⟩ = some (.slice (some ⟨gx, 0, none⟩) 1 cx) := c0
        replace c1 : wr.cell? ⟨w.heap.size + 3, 1, none⟩ = some (.slice (some ⟨gy, 0, none⟩) 1 cy) := c1
        have z1 : IntKind.i64.wrap (x0 + 1) = x0 + 1 := Go.IntWalk.i64_in _ ⟨by omega, by omega⟩
        go_wp2_with (first | (at_builtin; have hq := ((P0.out.start (x0 := 0) (x := x0 + 1) (v0 := undef) (v1 := undef) (v2 := undef)).load).built; have hsz := hq.mq.sz; refine wpList_app_copy _ rfl (.tmp 66) (.tmp 70) rfl _ rfl w.heap.size _ hq.own (some ⟨wr.heap.size, 0, none⟩) [x0 + 1] 1 rfl hq.srcAt (by simp) hsz ?_; intro v1 w1 ho hg hat; have hz := hq.added ho hg hat; obtain ⟨t0, t1, t2, t3, t4⟩ := hz.cells; obtain ⟨gx2, cx2, ex2, -, -⟩ := IntOwn.blk ho (by simp); replace ex2 : v1 = .slice (some ⟨gx2, 0, none⟩) 2 cx2 := ex2; subst ex2; have P1 := Lib.hid (hz.fin (o := 0)).swap; clear hq hsz ho hg hat hz) | (at_builtin; have hq := ((P1.out.start (x0 := 0) (x := y0) (v0 := undef) (v1 := undef) (v2 := undef)).load).built; have hsz := hq.mq.sz; refine wpList_app_copy _ rfl (.tmp 74) (.tmp 77) rfl _ rfl w.heap.size _ hq.own (some ⟨_, 0, none⟩) [y0] 1 rfl (by simpa using hq.srcAt) (by simp) hsz ?_; intro v2 w2 ho hg hat; have hz := hq.added ho hg hat; obtain ⟨p0, p1, p2, p3, p4⟩ := hz.cells; obtain ⟨gy2, cy2, ey2, -, -⟩ := IntOwn.blk ho (by simp); replace ey2 : v2 = .slice (some ⟨gy2, 0, none⟩) 2 cy2 := ey2; subst ey2; have P2 := Lib.hid (hz.fin (o := 1)).swap; obtain ⟨⟨r0, r1, r2, r3, r4⟩, -⟩ := P2.out.cells; clear hq hsz ho hg hat hz))
        obtain ⟨q1, q2, q3⟩ := P2.out.done (u := (.slice (some ⟨gx2, 0, none⟩) 2 cx2)) (v := (.slice (some ⟨gy2, 0, none⟩) 2 cy2))
        refine bodyPost_ret (v := .agg #[.slice (some ⟨gx2, 0, none⟩) 2 cx2, .slice (some ⟨gy2, 0, none⟩) 2 cy2]) (by simp only [results, Try.results13]; go_simp) rfl ⟨gx2, 0, cx2, gy2, 0, cy2, rfl, ?_, ?_, q3⟩
        · have e : stX x0 (stps []) = [x0] ++ [x0 + 1] := by simp [stps, stX]
          rw [e]; exact q1
        · have e : stY y0 (stps []) = [y0] ++ [y0] := by simp [stps, stY]
          rw [e]; exact q2
      · rcases hex with hq | ⟨hq, hq20⟩
        all_goals
          have hn2 : ¬ ((k + 1 : Nat) : Int) < 2 := by omega
          have HT := Lib.hid (stps_take (l := l) (k := k) (show l ≠ [] from fun h => by rw [h] at hz; simp at hz) (by omega))
          go_wp2_with fail
          obtain ⟨q1, q2, q3⟩ := P0.out.done (u := (.slice (some ⟨gx, 0, none⟩) (k + 1) cx)) (v := (.slice (some ⟨gy, 0, none⟩) (k + 1) cy))
          refine bodyPost_ret (v := .agg #[.slice (some ⟨gx, 0, none⟩) (k + 1) cx, .slice (some ⟨gy, 0, none⟩) (k + 1) cy]) (by simp only [results, Try.results13]; go_simp) rfl ⟨gx, 0, cx, gy, 0, cy, ?_, ?_, ?_, q3⟩
          · rw [← HT.out, HLX.out]
          · rw [← HT.out]; exact q1
          · rw [← HT.out]; exact q2

end Go.Proofs.Ytngnehlmbipabaa
