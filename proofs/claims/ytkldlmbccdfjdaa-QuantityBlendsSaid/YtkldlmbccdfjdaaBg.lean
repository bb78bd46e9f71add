/-
  The walk of QuantityBlends.
-/
import Derived.Test.YtkldlmbccdfjdaaBf
set_option linter.unusedSimpArgs false
set_option linter.unusedVariables false
namespace Go.Proofs.Ytkldlmbccdfjdaa
open Go.RowKit
theorem TwoQ.mk0' {w W : World} {L : List (Nat × Obj)} {B : Nat} {xs ys : List Int} {b1 b2 b3 b4 : Bool} {v0 v1 v2 v3 v4 : Value} (h : TwoQ w L B xs ys false b1 b2 b3 b4 v0 v1 v2 v3 v4 W) : TwoQ w L B xs ys true b1 b2 b3 b4 (.slice (some ⟨W.heap.size, 0, none⟩) 0 0) v1 v2 v3 v4 (W.alloc (.cells #[] 2)) := by
  obtain rfl : b1 = false := by
    cases b1 with
    | false => rfl
    | true => exact absurd (h.i1 rfl) (by decide)
  exact h.mk0
set_option maxHeartbeats 4000000 in
set_option maxRecDepth 20000 in
theorem Blends_core (pa pb pc pd : Option Addr) (ca cb cc cd : Nat) (xs ys us vs : List Int) (n k : Int) (w : World)
    (hA : IntAt pa xs w) (hB : IntAt pb ys w) (hC : IntAt pc us w) (hD : IntAt pd vs w) :
    Calls Try.prog 3 #[.agg #[.slice pa xs.length ca, .slice pb ys.length cb], .agg #[.slice pc us.length cc, .slice pd vs.length cd], .int .i64 n, .int .i64 k] w fun e w' => e = .returned (.bool true) ∧ Below w.heap.size w w' := by
  by_cases hlen : xs.length ≤ 200 ∧ ys.length ≤ 200 ∧ us.length ≤ 200 ∧ vs.length ≤ 200
  · obtain ⟨hx, hy, hu, hv⟩ := hlen
    have HA := Lib.hid hA
    have HB := Lib.hid hB
    have HC := Lib.hid hC
    have HD := Lib.hid hD
    have RM := Lib.hid (fun W h1 h2 => RMove_any pa pb ca cb xs ys n k W (by omega) (by omega) h1 h2)
    have RB := Lib.hid (fun W h1 h2 h3 h4 => RBlend_any pa pb pc pd ca cb cc cd xs ys us vs n k W (by omega) (by omega) (by omega) (by omega) h1 h2 h3 h4)
    have MV := Lib.hid (fun (a b : Option Addr) (c d : Nat) W h1 h2 => Move_any a b c d xs ys n k W (by omega) (by omega) h1 h2)
    have BV := Lib.hid (fun (a b : Option Addr) (c d : Nat) W h1 h2 h3 h4 => Blend_any a b pc pd c d cc cd xs ys us vs n k W (by omega) (by omega) (by omega) (by omega) h1 h2 h3 h4)
    have hM := move_len xs ys n k
    have hN := blend_len xs ys us vs n k
    have hV := Lib.hid (fun h => blend_valid (xs := xs) (ys := ys) (us := us) (vs := vs) (n := n) (k := k) h)
    generalize moveS xs ys n k = M at *
    generalize blendS xs ys us vs n k = N at *
    obtain ⟨⟨MX, MY⟩, me⟩ := M
    obtain ⟨⟨NX, NY⟩, ne⟩ := N
    dsimp only at hM hN hV RM MV RB BV
    obtain ⟨hM1, hM2⟩ := hM
    obtain ⟨hN1, hN2⟩ := hN
    have HL := Lib.hid (show MX.length = MY.length ∧ NX.length = NY.length from ⟨hM1, hN1⟩)
    clear hM1 hN1 hA hB hC hD
    have h200 : (xs.length : Int) ≤ 200 ∧ (ys.length : Int) ≤ 200 ∧ (us.length : Int) ≤ 200 ∧ (vs.length : Int) ≤ 200 := by omega
    obtain ⟨hx', hy', hu', hv'⟩ := h200
    have BX := Lib.hid (two_boxes (w := w) (o1 := .cells #[.slice pa xs.length ca, .slice pb ys.length cb] 24) (o2 := .cells #[.slice pc us.length cc, .slice pd vs.length cd] 24))
    go_enter Try.func3, Try.ntmps3
    go_upto_region 3 with fail
    go_cut [9] (fun s9 W => ∃ (r : Nat) (a b : Option Addr) (c d : Nat), s9 = .pointer (some ⟨r, 0, none⟩) ∧ PRow w [(w.heap.size, .cells #[.slice pa xs.length ca, .slice pb ys.length cb] 24), (w.heap.size + 1, .cells #[.slice pc us.length cc, .slice pd vs.length cd] 24)] r a b c d xs ys W)
    case first =>
      refine region_effs 10 8 [(0, 43), (3, 46), (4, 47), (7, 50), (8, 51), (9, 9)] [(some 0, []), (none, []), (none, []), (some 1, [0]), (some 2, []), (none, []), (none, []), (some 3, [2]), (some 4, [1, 3]), (some 5, [])] [(44, (.pointer (some ⟨w.heap.size, 0, none⟩))), (45, (.slice pa xs.length ca)), (48, (.pointer (some ⟨w.heap.size, 1, none⟩))), (49, (.slice pb ys.length cb))] (fun bsE vsE W => TwoA w [(w.heap.size, .cells #[.slice pa xs.length ca, .slice pb ys.length cb] 24), (w.heap.size + 1, .cells #[.slice pc us.length cc, .slice pd vs.length cd] 24)] (w.heap.size + 2) xs ys (bsE.getD 0 false) (bsE.getD 1 false) (bsE.getD 2 false) (bsE.getD 3 false) (bsE.getD 4 false) (bsE.getD 5 false) (vsE.getD 0 undef) (vsE.getD 1 undef) (vsE.getD 2 undef) (vsE.getD 3 undef) (vsE.getD 4 undef) (vsE.getD 5 undef) W) (by kernel_rfl) (by kernel_rfl) rfl (by kernel_rfl) (by kernel_rfl) (by simp) (by rfl) ?h0 ?each ?tail
      case h0 =>
        intro vsE hlv
        obtain ⟨v0, vsE0, rfl, hlv0⟩ := len_one hlv
        obtain ⟨v1, vsE1, rfl, hlv1⟩ := len_one hlv0
        obtain ⟨v2, vsE2, rfl, hlv2⟩ := len_one hlv1
        obtain ⟨v3, vsE3, rfl, hlv3⟩ := len_one hlv2
        obtain ⟨v4, vsE4, rfl, hlv4⟩ := len_one hlv3
        obtain ⟨v5, vsE5, rfl, hlv5⟩ := len_one hlv4
        obtain rfl := len_nil hlv5
        exact ⟨TwoQ.start (by omega) (by intro p hp; simp only [List.mem_cons, List.not_mem_nil, or_false] at hp; rcases hp with rfl | rfl <;> (simp; try omega)) (by repeat' (first | exact Below.refl _ _ | assumption | apply bDrewN | apply bDrew | apply bAlloc | (refine bSet ?_ ?_ _) | (refine bStep ?_ (by assumption)) | omega | (simp <;> omega))) (by simp) (by intro p hp; simp only [List.mem_cons, List.not_mem_nil, or_false] at hp; rcases hp with rfl | rfl; exact BX.out.1; exact BX.out.2), fun e => by cases e⟩
      case each =>
        simp only [List.take_succ_cons, List.take_zero, AllE]
        refine ⟨?_, ?_, ?_, ?_, ?_, ?_, ?_, ?_, ?_, ?_, trivial⟩
        · refine ⟨43, rfl, ?_⟩
          intro bsE vsE W hlb hlv hnd hbk h
          obtain ⟨b0, bsE0, rfl, hlb0⟩ := len_one hlb
          obtain ⟨v0, vsE0, rfl, hlv0⟩ := len_one hlv
          obtain ⟨b1, bsE1, rfl, hlb1⟩ := len_one hlb0
          obtain ⟨v1, vsE1, rfl, hlv1⟩ := len_one hlv0
          obtain ⟨b2, bsE2, rfl, hlb2⟩ := len_one hlb1
          obtain ⟨v2, vsE2, rfl, hlv2⟩ := len_one hlv1
          obtain ⟨b3, bsE3, rfl, hlb3⟩ := len_one hlb2
          obtain ⟨v3, vsE3, rfl, hlv3⟩ := len_one hlv2
          obtain ⟨b4, bsE4, rfl, hlb4⟩ := len_one hlb3
          obtain ⟨v4, vsE4, rfl, hlv4⟩ := len_one hlv3
          obtain ⟨b5, bsE5, rfl, hlb5⟩ := len_one hlb4
          obtain ⟨v5, vsE5, rfl, hlv5⟩ := len_one hlv4
          obtain rfl := len_nil hlb5
          obtain rfl := len_nil hlv5
          obtain rfl : b0 = false := hbk
          replace h : TwoA w [(w.heap.size, .cells #[.slice pa xs.length ca, .slice pb ys.length cb] 24), (w.heap.size + 1, .cells #[.slice pc us.length cc, .slice pd vs.length cd] 24)] (w.heap.size + 2) xs ys false b1 b2 b3 b4 b5 v0 v1 v2 v3 v4 v5 W := h
          clear hnd
          have HST := Lib.hid h
          obtain ⟨c0, c1, k0⟩ := cv_open (h.two.sb _ (List.mem_cons_self ..)); have hsz := h.two.sz; have hbel := h.two.bel
          intro K Q hK
          simp only [putE, updAll, Act.put, List.setIfInBounds_toArray, List.set_cons_zero, List.set_cons_succ, List.set_nil] at hK ⊢
          go_wp2_with fail
          all_goals (first | exact hK _ _ ⟨h.two.mk0', h.ag⟩ | exact ⟨h.two.mk0', h.ag⟩)
        · refine ⟨44, (.pointer (some ⟨w.heap.size, 0, none⟩)), rfl, by kernel_rfl, ?_⟩
          intro bsE vsE W hlb hlv hnd h
          obtain ⟨b0, bsE0, rfl, hlb0⟩ := len_one hlb
          obtain ⟨v0, vsE0, rfl, hlv0⟩ := len_one hlv
          obtain ⟨b1, bsE1, rfl, hlb1⟩ := len_one hlb0
          obtain ⟨v1, vsE1, rfl, hlv1⟩ := len_one hlv0
          obtain ⟨b2, bsE2, rfl, hlb2⟩ := len_one hlb1
          obtain ⟨v2, vsE2, rfl, hlv2⟩ := len_one hlv1
          obtain ⟨b3, bsE3, rfl, hlb3⟩ := len_one hlb2
          obtain ⟨v3, vsE3, rfl, hlv3⟩ := len_one hlv2
          obtain ⟨b4, bsE4, rfl, hlb4⟩ := len_one hlb3
          obtain ⟨v4, vsE4, rfl, hlv4⟩ := len_one hlv3
          obtain ⟨b5, bsE5, rfl, hlb5⟩ := len_one hlb4
          obtain ⟨v5, vsE5, rfl, hlv5⟩ := len_one hlv4
          obtain rfl := len_nil hlb5
          obtain rfl := len_nil hlv5
          replace h : TwoA w [(w.heap.size, .cells #[.slice pa xs.length ca, .slice pb ys.length cb] 24), (w.heap.size + 1, .cells #[.slice pc us.length cc, .slice pd vs.length cd] 24)] (w.heap.size + 2) xs ys b0 b1 b2 b3 b4 b5 v0 v1 v2 v3 v4 v5 W := h
          clear hnd
          have HST := Lib.hid h
          obtain ⟨c0, c1, k0⟩ := cv_open (h.two.sb _ (List.mem_cons_self ..)); have hsz := h.two.sz; have hbel := h.two.bel
          intro K Q hK
          simp only [putE, updAll, Act.put, List.setIfInBounds_toArray, List.set_cons_zero, List.set_cons_succ, List.set_nil] at hK ⊢
          go_wp2_with (fail)
          all_goals (first | exact hK _ (by first | exact h | exact ⟨h.two.step (by repeat' (first | exact Below.refl _ _ | apply bDrewN | apply bDrew)), h.ag⟩) | exact (by first | exact h | exact ⟨h.two.step (by repeat' (first | exact Below.refl _ _ | apply bDrewN | apply bDrew)), h.ag⟩))
        · refine ⟨45, (.slice pa xs.length ca), rfl, by kernel_rfl, ?_⟩
          intro bsE vsE W hlb hlv hnd h
          obtain ⟨b0, bsE0, rfl, hlb0⟩ := len_one hlb
          obtain ⟨v0, vsE0, rfl, hlv0⟩ := len_one hlv
          obtain ⟨b1, bsE1, rfl, hlb1⟩ := len_one hlb0
          obtain ⟨v1, vsE1, rfl, hlv1⟩ := len_one hlv0
          obtain ⟨b2, bsE2, rfl, hlb2⟩ := len_one hlb1
          obtain ⟨v2, vsE2, rfl, hlv2⟩ := len_one hlv1
          obtain ⟨b3, bsE3, rfl, hlb3⟩ := len_one hlb2
          obtain ⟨v3, vsE3, rfl, hlv3⟩ := len_one hlv2
          obtain ⟨b4, bsE4, rfl, hlb4⟩ := len_one hlb3
          obtain ⟨v4, vsE4, rfl, hlv4⟩ := len_one hlv3
          obtain ⟨b5, bsE5, rfl, hlb5⟩ := len_one hlb4
          obtain ⟨v5, vsE5, rfl, hlv5⟩ := len_one hlv4
          obtain rfl := len_nil hlb5
          obtain rfl := len_nil hlv5
          replace h : TwoA w [(w.heap.size, .cells #[.slice pa xs.length ca, .slice pb ys.length cb] 24), (w.heap.size + 1, .cells #[.slice pc us.length cc, .slice pd vs.length cd] 24)] (w.heap.size + 2) xs ys b0 b1 b2 b3 b4 b5 v0 v1 v2 v3 v4 v5 W := h
          clear hnd
          have HST := Lib.hid h
          obtain ⟨c0, c1, k0⟩ := cv_open (h.two.sb _ (List.mem_cons_self ..)); have hsz := h.two.sz; have hbel := h.two.bel
          intro K Q hK
          simp only [putE, updAll, Act.put, List.setIfInBounds_toArray, List.set_cons_zero, List.set_cons_succ, List.set_nil] at hK ⊢
          go_wp2_with (fail)
          all_goals (first | exact hK _ (by first | exact h | exact ⟨h.two.step (by repeat' (first | exact Below.refl _ _ | apply bDrewN | apply bDrew)), h.ag⟩) | exact (by first | exact h | exact ⟨h.two.step (by repeat' (first | exact Below.refl _ _ | apply bDrewN | apply bDrew)), h.ag⟩))
        · refine ⟨46, rfl, ?_⟩
          intro bsE vsE W hlb hlv hnd hbk h
          obtain ⟨b0, bsE0, rfl, hlb0⟩ := len_one hlb
          obtain ⟨v0, vsE0, rfl, hlv0⟩ := len_one hlv
          obtain ⟨b1, bsE1, rfl, hlb1⟩ := len_one hlb0
          obtain ⟨v1, vsE1, rfl, hlv1⟩ := len_one hlv0
          obtain ⟨b2, bsE2, rfl, hlb2⟩ := len_one hlb1
          obtain ⟨v2, vsE2, rfl, hlv2⟩ := len_one hlv1
          obtain ⟨b3, bsE3, rfl, hlb3⟩ := len_one hlb2
          obtain ⟨v3, vsE3, rfl, hlv3⟩ := len_one hlv2
          obtain ⟨b4, bsE4, rfl, hlb4⟩ := len_one hlb3
          obtain ⟨v4, vsE4, rfl, hlv4⟩ := len_one hlv3
          obtain ⟨b5, bsE5, rfl, hlb5⟩ := len_one hlb4
          obtain ⟨v5, vsE5, rfl, hlv5⟩ := len_one hlv4
          obtain rfl := len_nil hlb5
          obtain rfl := len_nil hlv5
          obtain rfl : b0 = true := hnd 0 (by simp)
          obtain rfl : b1 = false := hbk
          replace h : TwoA w [(w.heap.size, .cells #[.slice pa xs.length ca, .slice pb ys.length cb] 24), (w.heap.size + 1, .cells #[.slice pc us.length cc, .slice pd vs.length cd] 24)] (w.heap.size + 2) xs ys true false b2 b3 b4 b5 v0 v1 v2 v3 v4 v5 W := h
          clear hnd
          have HST := Lib.hid h
          obtain ⟨c0, c1, k0⟩ := cv_open (h.two.sb _ (List.mem_cons_self ..)); have hsz := h.two.sz; have hbel := h.two.bel
          intro K Q hK
          simp only [putE, updAll, Act.put, List.setIfInBounds_toArray, List.set_cons_zero, List.set_cons_succ, List.set_nil] at hK ⊢
          refine wp_app_copy _ (.tmp 43) (.tmp 45) rfl v0 rfl (w.heap.size + 2) [] (h.two.ox rfl) pa xs ca rfl (HA.out.step hbel) (by simp; omega) hsz ?_
          intro v' w' ho hg hat
          first | exact hK _ _ ⟨h.two.mk1 ho hg hat, fun e => by have := (h.ag e).2.1; cases this⟩ | exact ⟨h.two.mk1 ho hg hat, fun e => by have := (h.ag e).2.1; cases this⟩
        · refine ⟨47, rfl, ?_⟩
          intro bsE vsE W hlb hlv hnd hbk h
          obtain ⟨b0, bsE0, rfl, hlb0⟩ := len_one hlb
          obtain ⟨v0, vsE0, rfl, hlv0⟩ := len_one hlv
          obtain ⟨b1, bsE1, rfl, hlb1⟩ := len_one hlb0
          obtain ⟨v1, vsE1, rfl, hlv1⟩ := len_one hlv0
          obtain ⟨b2, bsE2, rfl, hlb2⟩ := len_one hlb1
          obtain ⟨v2, vsE2, rfl, hlv2⟩ := len_one hlv1
          obtain ⟨b3, bsE3, rfl, hlb3⟩ := len_one hlb2
          obtain ⟨v3, vsE3, rfl, hlv3⟩ := len_one hlv2
          obtain ⟨b4, bsE4, rfl, hlb4⟩ := len_one hlb3
          obtain ⟨v4, vsE4, rfl, hlv4⟩ := len_one hlv3
          obtain ⟨b5, bsE5, rfl, hlb5⟩ := len_one hlb4
          obtain ⟨v5, vsE5, rfl, hlv5⟩ := len_one hlv4
          obtain rfl := len_nil hlb5
          obtain rfl := len_nil hlv5
          obtain rfl : b2 = false := hbk
          replace h : TwoA w [(w.heap.size, .cells #[.slice pa xs.length ca, .slice pb ys.length cb] 24), (w.heap.size + 1, .cells #[.slice pc us.length cc, .slice pd vs.length cd] 24)] (w.heap.size + 2) xs ys b0 b1 false b3 b4 b5 v0 v1 v2 v3 v4 v5 W := h
          clear hnd
          have HST := Lib.hid h
          obtain ⟨c0, c1, k0⟩ := cv_open (h.two.sb _ (List.mem_cons_self ..)); have hsz := h.two.sz; have hbel := h.two.bel
          intro K Q hK
          simp only [putE, updAll, Act.put, List.setIfInBounds_toArray, List.set_cons_zero, List.set_cons_succ, List.set_nil] at hK ⊢
          go_wp2_with fail
          all_goals (first | exact hK _ _ ⟨h.two.swap.mk0'.swap, h.ag⟩ | exact ⟨h.two.swap.mk0'.swap, h.ag⟩)
        · refine ⟨48, (.pointer (some ⟨w.heap.size, 1, none⟩)), rfl, by kernel_rfl, ?_⟩
          intro bsE vsE W hlb hlv hnd h
          obtain ⟨b0, bsE0, rfl, hlb0⟩ := len_one hlb
          obtain ⟨v0, vsE0, rfl, hlv0⟩ := len_one hlv
          obtain ⟨b1, bsE1, rfl, hlb1⟩ := len_one hlb0
          obtain ⟨v1, vsE1, rfl, hlv1⟩ := len_one hlv0
          obtain ⟨b2, bsE2, rfl, hlb2⟩ := len_one hlb1
          obtain ⟨v2, vsE2, rfl, hlv2⟩ := len_one hlv1
          obtain ⟨b3, bsE3, rfl, hlb3⟩ := len_one hlb2
          obtain ⟨v3, vsE3, rfl, hlv3⟩ := len_one hlv2
          obtain ⟨b4, bsE4, rfl, hlb4⟩ := len_one hlb3
          obtain ⟨v4, vsE4, rfl, hlv4⟩ := len_one hlv3
          obtain ⟨b5, bsE5, rfl, hlb5⟩ := len_one hlb4
          obtain ⟨v5, vsE5, rfl, hlv5⟩ := len_one hlv4
          obtain rfl := len_nil hlb5
          obtain rfl := len_nil hlv5
          replace h : TwoA w [(w.heap.size, .cells #[.slice pa xs.length ca, .slice pb ys.length cb] 24), (w.heap.size + 1, .cells #[.slice pc us.length cc, .slice pd vs.length cd] 24)] (w.heap.size + 2) xs ys b0 b1 b2 b3 b4 b5 v0 v1 v2 v3 v4 v5 W := h
          clear hnd
          have HST := Lib.hid h
          obtain ⟨c0, c1, k0⟩ := cv_open (h.two.sb _ (List.mem_cons_self ..)); have hsz := h.two.sz; have hbel := h.two.bel
          intro K Q hK
          simp only [putE, updAll, Act.put, List.setIfInBounds_toArray, List.set_cons_zero, List.set_cons_succ, List.set_nil] at hK ⊢
          go_wp2_with (fail)
          all_goals (first | exact hK _ (by first | exact h | exact ⟨h.two.step (by repeat' (first | exact Below.refl _ _ | apply bDrewN | apply bDrew)), h.ag⟩) | exact (by first | exact h | exact ⟨h.two.step (by repeat' (first | exact Below.refl _ _ | apply bDrewN | apply bDrew)), h.ag⟩))
        · refine ⟨49, (.slice pb ys.length cb), rfl, by kernel_rfl, ?_⟩
          intro bsE vsE W hlb hlv hnd h
          obtain ⟨b0, bsE0, rfl, hlb0⟩ := len_one hlb
          obtain ⟨v0, vsE0, rfl, hlv0⟩ := len_one hlv
          obtain ⟨b1, bsE1, rfl, hlb1⟩ := len_one hlb0
          obtain ⟨v1, vsE1, rfl, hlv1⟩ := len_one hlv0
          obtain ⟨b2, bsE2, rfl, hlb2⟩ := len_one hlb1
          obtain ⟨v2, vsE2, rfl, hlv2⟩ := len_one hlv1
          obtain ⟨b3, bsE3, rfl, hlb3⟩ := len_one hlb2
          obtain ⟨v3, vsE3, rfl, hlv3⟩ := len_one hlv2
          obtain ⟨b4, bsE4, rfl, hlb4⟩ := len_one hlb3
          obtain ⟨v4, vsE4, rfl, hlv4⟩ := len_one hlv3
          obtain ⟨b5, bsE5, rfl, hlb5⟩ := len_one hlb4
          obtain ⟨v5, vsE5, rfl, hlv5⟩ := len_one hlv4
          obtain rfl := len_nil hlb5
          obtain rfl := len_nil hlv5
          replace h : TwoA w [(w.heap.size, .cells #[.slice pa xs.length ca, .slice pb ys.length cb] 24), (w.heap.size + 1, .cells #[.slice pc us.length cc, .slice pd vs.length cd] 24)] (w.heap.size + 2) xs ys b0 b1 b2 b3 b4 b5 v0 v1 v2 v3 v4 v5 W := h
          clear hnd
          have HST := Lib.hid h
          obtain ⟨c0, c1, k0⟩ := cv_open (h.two.sb _ (List.mem_cons_self ..)); have hsz := h.two.sz; have hbel := h.two.bel
          intro K Q hK
          simp only [putE, updAll, Act.put, List.setIfInBounds_toArray, List.set_cons_zero, List.set_cons_succ, List.set_nil] at hK ⊢
          go_wp2_with (fail)
          all_goals (first | exact hK _ (by first | exact h | exact ⟨h.two.step (by repeat' (first | exact Below.refl _ _ | apply bDrewN | apply bDrew)), h.ag⟩) | exact (by first | exact h | exact ⟨h.two.step (by repeat' (first | exact Below.refl _ _ | apply bDrewN | apply bDrew)), h.ag⟩))
        · refine ⟨50, rfl, ?_⟩
          intro bsE vsE W hlb hlv hnd hbk h
          obtain ⟨b0, bsE0, rfl, hlb0⟩ := len_one hlb
          obtain ⟨v0, vsE0, rfl, hlv0⟩ := len_one hlv
          obtain ⟨b1, bsE1, rfl, hlb1⟩ := len_one hlb0
          obtain ⟨v1, vsE1, rfl, hlv1⟩ := len_one hlv0
          obtain ⟨b2, bsE2, rfl, hlb2⟩ := len_one hlb1
          obtain ⟨v2, vsE2, rfl, hlv2⟩ := len_one hlv1
          obtain ⟨b3, bsE3, rfl, hlb3⟩ := len_one hlb2
          obtain ⟨v3, vsE3, rfl, hlv3⟩ := len_one hlv2
          obtain ⟨b4, bsE4, rfl, hlb4⟩ := len_one hlb3
          obtain ⟨v4, vsE4, rfl, hlv4⟩ := len_one hlv3
          obtain ⟨b5, bsE5, rfl, hlb5⟩ := len_one hlb4
          obtain ⟨v5, vsE5, rfl, hlv5⟩ := len_one hlv4
          obtain rfl := len_nil hlb5
          obtain rfl := len_nil hlv5
          obtain rfl : b2 = true := hnd 2 (by simp)
          obtain rfl : b3 = false := hbk
          replace h : TwoA w [(w.heap.size, .cells #[.slice pa xs.length ca, .slice pb ys.length cb] 24), (w.heap.size + 1, .cells #[.slice pc us.length cc, .slice pd vs.length cd] 24)] (w.heap.size + 2) xs ys b0 b1 true false b4 b5 v0 v1 v2 v3 v4 v5 W := h
          clear hnd
          have HST := Lib.hid h
          obtain ⟨c0, c1, k0⟩ := cv_open (h.two.sb _ (List.mem_cons_self ..)); have hsz := h.two.sz; have hbel := h.two.bel
          intro K Q hK
          simp only [putE, updAll, Act.put, List.setIfInBounds_toArray, List.set_cons_zero, List.set_cons_succ, List.set_nil] at hK ⊢
          refine wp_app_copy _ (.tmp 47) (.tmp 49) rfl v2 rfl (w.heap.size + 2) [] (h.two.oy rfl) pb ys cb rfl (HB.out.step hbel) (by simp; omega) hsz ?_
          intro v' w' ho hg hat
          first | exact hK _ _ ⟨(h.two.swap.mk1 ho hg hat).swap, fun e => by have := (h.ag e).2.2; cases this⟩ | exact ⟨(h.two.swap.mk1 ho hg hat).swap, fun e => by have := (h.ag e).2.2; cases this⟩
        · refine ⟨51, rfl, ?_⟩
          intro bsE vsE W hlb hlv hnd hbk h
          obtain ⟨b0, bsE0, rfl, hlb0⟩ := len_one hlb
          obtain ⟨v0, vsE0, rfl, hlv0⟩ := len_one hlv
          obtain ⟨b1, bsE1, rfl, hlb1⟩ := len_one hlb0
          obtain ⟨v1, vsE1, rfl, hlv1⟩ := len_one hlv0
          obtain ⟨b2, bsE2, rfl, hlb2⟩ := len_one hlb1
          obtain ⟨v2, vsE2, rfl, hlv2⟩ := len_one hlv1
          obtain ⟨b3, bsE3, rfl, hlb3⟩ := len_one hlb2
          obtain ⟨v3, vsE3, rfl, hlv3⟩ := len_one hlv2
          obtain ⟨b4, bsE4, rfl, hlb4⟩ := len_one hlb3
          obtain ⟨v4, vsE4, rfl, hlv4⟩ := len_one hlv3
          obtain ⟨b5, bsE5, rfl, hlb5⟩ := len_one hlb4
          obtain ⟨v5, vsE5, rfl, hlv5⟩ := len_one hlv4
          obtain rfl := len_nil hlb5
          obtain rfl := len_nil hlv5
          obtain rfl : b1 = true := hnd 1 (by simp)
          obtain rfl : b3 = true := hnd 3 (by simp)
          obtain rfl : b4 = false := hbk
          replace h : TwoA w [(w.heap.size, .cells #[.slice pa xs.length ca, .slice pb ys.length cb] 24), (w.heap.size + 1, .cells #[.slice pc us.length cc, .slice pd vs.length cd] 24)] (w.heap.size + 2) xs ys b0 true b2 true false b5 v0 v1 v2 v3 v4 v5 W := h
          clear hnd
          have HST := Lib.hid h
          obtain ⟨c0, c1, k0⟩ := cv_open (h.two.sb _ (List.mem_cons_self ..)); have hsz := h.two.sz; have hbel := h.two.bel; obtain ⟨a1, d1, rfl, -⟩ := IntOwn.row (h.two.ox (h.two.i1 rfl)); obtain ⟨a2, d2, rfl, -⟩ := IntOwn.row (h.two.oy (h.two.i3 rfl))
          intro K Q hK
          simp only [putE, updAll, Act.put, List.setIfInBounds_toArray, List.set_cons_zero, List.set_cons_succ, List.set_nil] at hK ⊢
          go_wp2_with fail
          all_goals (first | exact hK _ _ ⟨h.two, fun _ => ⟨rfl, rfl, rfl⟩⟩ | exact ⟨h.two, fun _ => ⟨rfl, rfl, rfl⟩⟩)
        · refine ⟨9, rfl, ?_⟩
          intro bsE vsE W hlb hlv hnd hbk h
          obtain ⟨b0, bsE0, rfl, hlb0⟩ := len_one hlb
          obtain ⟨v0, vsE0, rfl, hlv0⟩ := len_one hlv
          obtain ⟨b1, bsE1, rfl, hlb1⟩ := len_one hlb0
          obtain ⟨v1, vsE1, rfl, hlv1⟩ := len_one hlv0
          obtain ⟨b2, bsE2, rfl, hlb2⟩ := len_one hlb1
          obtain ⟨v2, vsE2, rfl, hlv2⟩ := len_one hlv1
          obtain ⟨b3, bsE3, rfl, hlb3⟩ := len_one hlb2
          obtain ⟨v3, vsE3, rfl, hlv3⟩ := len_one hlv2
          obtain ⟨b4, bsE4, rfl, hlb4⟩ := len_one hlb3
          obtain ⟨v4, vsE4, rfl, hlv4⟩ := len_one hlv3
          obtain ⟨b5, bsE5, rfl, hlb5⟩ := len_one hlb4
          obtain ⟨v5, vsE5, rfl, hlv5⟩ := len_one hlv4
          obtain rfl := len_nil hlb5
          obtain rfl := len_nil hlv5
          obtain rfl : b5 = false := hbk
          replace h : TwoA w [(w.heap.size, .cells #[.slice pa xs.length ca, .slice pb ys.length cb] 24), (w.heap.size + 1, .cells #[.slice pc us.length cc, .slice pd vs.length cd] 24)] (w.heap.size + 2) xs ys b0 b1 b2 b3 b4 false v0 v1 v2 v3 v4 v5 W := h
          clear hnd
          have HST := Lib.hid h
          obtain ⟨c0, c1, k0⟩ := cv_open (h.two.sb _ (List.mem_cons_self ..)); have hsz := h.two.sz; have hbel := h.two.bel
          intro K Q hK
          simp only [putE, updAll, Act.put, List.setIfInBounds_toArray, List.set_cons_zero, List.set_cons_succ, List.set_nil] at hK ⊢
          go_wp2_with fail
          all_goals (first | exact hK _ _ ⟨h.two.mk4, h.ag⟩ | exact ⟨h.two.mk4, h.ag⟩)
      case tail =>
        intro vsE W hlv h
        obtain ⟨v0, vsE0, rfl, hlv0⟩ := len_one hlv
        obtain ⟨v1, vsE1, rfl, hlv1⟩ := len_one hlv0
        obtain ⟨v2, vsE2, rfl, hlv2⟩ := len_one hlv1
        obtain ⟨v3, vsE3, rfl, hlv3⟩ := len_one hlv2
        obtain ⟨v4, vsE4, rfl, hlv4⟩ := len_one hlv3
        obtain ⟨v5, vsE5, rfl, hlv5⟩ := len_one hlv4
        obtain rfl := len_nil hlv5
        replace h : TwoA w [(w.heap.size, .cells #[.slice pa xs.length ca, .slice pb ys.length cb] 24), (w.heap.size + 1, .cells #[.slice pc us.length cc, .slice pd vs.length cd] 24)] (w.heap.size + 2) xs ys true true true true true true v0 v1 v2 v3 v4 v5 W := h
        have HST := Lib.hid h
        obtain ⟨r, a, b, c, d, rfl, rfl, rfl, hz, hP⟩ := h.two.fin
        obtain ⟨rfl, -, -⟩ := h.ag rfl
        unfold zCurve at hz
        obtain ⟨q0, q1, q2, q3, q4⟩ := cv_openF hz
        refine wpOp_plain rfl rfl ?_
        simp only [putE, updAll, Act.put, List.setIfInBounds_toArray, List.set_cons_zero, List.set_cons_succ, List.set_nil]
        go_wp2_with fail
        go_meet
        exact ⟨r, a, b, c, d, rfl, hP⟩
    case rest =>
      obtain ⟨r, a, b, c, d, rfl, hP⟩ := hcut
      have P0 := Lib.hid hP
      have HBel := hP.bel
      clear hP BX
      obtain ⟨c0, c1, k0⟩ := cv_open (P0.out.sb _ (List.mem_cons_self ..)); obtain ⟨c2, c3, k1⟩ := cv_open (P0.out.sb _ (List.mem_cons_of_mem _ (List.mem_cons_self ..))); obtain ⟨c4, c5, k2⟩ := cv_open P0.out.bx
      go_upto_region 8 with (first | (go_at_call 7; refine (MV.out a b c d _ P0.out.rx P0.out.ry).mono ?_; rintro e w1 ⟨v, u, rfl, hco, hb1⟩; obtain ⟨a1, b1, x1, y1, rfl, rfl, hco⟩ := hco.open_; have O1 := Lib.hid hco; clear hco; have P1 := Lib.hid (P0.out.step hb1); obtain ⟨c0, c1, k0⟩ := cv_open (P1.out.sb _ (List.mem_cons_self ..)); obtain ⟨c2, c3, k1⟩ := cv_open (P1.out.sb _ (List.mem_cons_of_mem _ (List.mem_cons_self ..))); obtain ⟨c4, c5, k2⟩ := cv_open P1.out.bx) | (go_at_call 8; refine (RM.out _ (HA.out.step (by repeat' (first | exact Below.refl _ _ | assumption | apply bDrewN | apply bDrew | apply bAlloc | (refine bSet ?_ ?_ _) | (refine bStep ?_ (by assumption)) | omega | (simp <;> omega)))) (HB.out.step (by repeat' (first | exact Below.refl _ _ | assumption | apply bDrewN | apply bDrew | apply bAlloc | (refine bSet ?_ ?_ _) | (refine bStep ?_ (by assumption)) | omega | (simp <;> omega))))).mono ?_; rintro e w2 ⟨v, u, rfl, ⟨⟨a2, x2, rfl, hq1⟩, ⟨b2, y2, rfl, hq2⟩⟩, hb2⟩; have Q2 := Lib.hid (And.intro hq1 hq2); clear hq1 hq2; have P2 := Lib.hid (P1.out.step (bStep bAlZ hb2)); obtain ⟨c0, c1, k0⟩ := cv_open (P2.out.sb _ (List.mem_cons_self ..)); obtain ⟨c2, c3, k1⟩ := cv_open (P2.out.sb _ (List.mem_cons_of_mem _ (List.mem_cons_self ..))); obtain ⟨c4, c5, k2⟩ := cv_open P2.out.bx; have X10 := Lib.hid (blk_step (blk_new w1 (.cells #[.slice a1 MX.length x1, .slice b1 MY.length y1] 24)) hb2); obtain ⟨m10a, m10b, m10c⟩ := cv_open X10.out) | (go_at_call 9; refine (SameCurve_eqB a1 b1 a2 b2 x1 y1 x2 y2 MX MY _ (by omega) (by have := HL.out; omega) (O1.out.ats.1.step (by repeat' (first | exact Below.refl _ _ | assumption | apply bDrewN | apply bDrew | apply bAlloc | (refine bSet ?_ ?_ _) | (refine bStep ?_ (by assumption)) | omega | (simp <;> omega)))) (O1.out.ats.2.step (by repeat' (first | exact Below.refl _ _ | assumption | apply bDrewN | apply bDrew | apply bAlloc | (refine bSet ?_ ?_ _) | (refine bStep ?_ (by assumption)) | omega | (simp <;> omega)))) (Q2.out.1.step (by repeat' (first | exact Below.refl _ _ | assumption | apply bDrewN | apply bDrew | apply bAlloc | (refine bSet ?_ ?_ _) | (refine bStep ?_ (by assumption)) | omega | (simp <;> omega)))) (Q2.out.2.step (by repeat' (first | exact Below.refl _ _ | assumption | apply bDrewN | apply bDrew | apply bAlloc | (refine bSet ?_ ?_ _) | (refine bStep ?_ (by assumption)) | omega | (simp <;> omega))))).mono ?_; rintro e w3 ⟨rfl, hb3⟩; have P3 := Lib.hid (P2.out.step (bStep bAlZ hb3)); obtain ⟨c0, c1, k0⟩ := cv_open (P3.out.sb _ (List.mem_cons_self ..)); obtain ⟨c2, c3, k1⟩ := cv_open (P3.out.sb _ (List.mem_cons_of_mem _ (List.mem_cons_self ..))); obtain ⟨c4, c5, k2⟩ := cv_open P3.out.bx; replace X10 := Lib.hid (blk_step X10.out (bStep bAlZ hb3)); obtain ⟨m10a, m10b, m10c⟩ := cv_open X10.out; have X12 := Lib.hid (blk_step (blk_new w2 (.cells #[.slice a2 MX.length x2, .slice b2 MY.length y2] 24)) hb3); obtain ⟨m12a, m12b, m12c⟩ := cv_open X12.out))
      have XA := Lib.hid X10.out
      have hne : Hid (ne = 0 → checkC NX NY = 0) := hV.out
      have hnn : ne = 0 ∨ ¬ ne = 0 := Classical.em _
      rcases hnn with hn0 | hn0
      all_goals
        (try have CZ := Lib.hid (show ∀ (a4 b4 : Option Addr) (x4 y4 : Nat) (W : World), IntAt a4 NX W → IntAt b4 NY W → Calls Try.prog 12 #[.agg #[.slice a4 NX.length x4, .slice b4 NY.length y4]] W fun e w' => e = .returned (.int .i64 0) ∧ Below W.heap.size W w' from fun a4 b4 x4 y4 W h1 h2 => by
          have q := CheckCurve_any a4 b4 x4 y4 NX NY W (by omega) (by have := HL.out; omega) h1 h2
          rw [hne hn0] at q
          exact q))
        clear hne hV RM MV
        go_wp2_with (first | (go_at_call 10; refine (BV.out a b c d _ P3.out.rx P3.out.ry (HC.out.step (by repeat' (first | exact Below.refl _ _ | assumption | apply bDrewN | apply bDrew | apply bAlloc | (refine bSet ?_ ?_ _) | (refine bStep ?_ (by assumption)) | omega | (simp <;> omega)))) (HD.out.step (by repeat' (first | exact Below.refl _ _ | assumption | apply bDrewN | apply bDrew | apply bAlloc | (refine bSet ?_ ?_ _) | (refine bStep ?_ (by assumption)) | omega | (simp <;> omega))))).mono ?_; rintro e w4 ⟨v, u, rfl, hco, hb4⟩; obtain ⟨a4, b4, x4, y4, rfl, rfl, hco⟩ := hco.open_; have O4 := Lib.hid hco; clear hco; have P4 := Lib.hid (P3.out.step hb4); obtain ⟨c0, c1, k0⟩ := cv_open (P4.out.sb _ (List.mem_cons_self ..)); obtain ⟨c2, c3, k1⟩ := cv_open (P4.out.sb _ (List.mem_cons_of_mem _ (List.mem_cons_self ..))); obtain ⟨c4, c5, k2⟩ := cv_open P4.out.bx; replace X10 := Lib.hid (blk_step X10.out hb4); obtain ⟨m10a, m10b, m10c⟩ := cv_open X10.out; replace X12 := Lib.hid (blk_step X12.out hb4); obtain ⟨m12a, m12b, m12c⟩ := cv_open X12.out) | (go_at_call 11; refine (RB.out _ (HA.out.step (by repeat' (first | exact Below.refl _ _ | assumption | apply bDrewN | apply bDrew | apply bAlloc | (refine bSet ?_ ?_ _) | (refine bStep ?_ (by assumption)) | omega | (simp <;> omega)))) (HB.out.step (by repeat' (first | exact Below.refl _ _ | assumption | apply bDrewN | apply bDrew | apply bAlloc | (refine bSet ?_ ?_ _) | (refine bStep ?_ (by assumption)) | omega | (simp <;> omega)))) (HC.out.step (by repeat' (first | exact Below.refl _ _ | assumption | apply bDrewN | apply bDrew | apply bAlloc | (refine bSet ?_ ?_ _) | (refine bStep ?_ (by assumption)) | omega | (simp <;> omega)))) (HD.out.step (by repeat' (first | exact Below.refl _ _ | assumption | apply bDrewN | apply bDrew | apply bAlloc | (refine bSet ?_ ?_ _) | (refine bStep ?_ (by assumption)) | omega | (simp <;> omega))))).mono ?_; rintro e w5 ⟨v, u, rfl, ⟨⟨a5, x5, rfl, hq1⟩, ⟨b5, y5, rfl, hq2⟩⟩, hb5⟩; have Q5 := Lib.hid (And.intro hq1 hq2); clear hq1 hq2; have P5 := Lib.hid (P4.out.step (bStep bAlZ hb5)); obtain ⟨c0, c1, k0⟩ := cv_open (P5.out.sb _ (List.mem_cons_self ..)); obtain ⟨c2, c3, k1⟩ := cv_open (P5.out.sb _ (List.mem_cons_of_mem _ (List.mem_cons_self ..))); obtain ⟨c4, c5, k2⟩ := cv_open P5.out.bx; replace X10 := Lib.hid (blk_step X10.out (bStep bAlZ hb5)); obtain ⟨m10a, m10b, m10c⟩ := cv_open X10.out; have X14 := Lib.hid (blk_step (blk_new w4 (.cells #[.slice a4 NX.length x4, .slice b4 NY.length y4] 24)) hb5); obtain ⟨m14a, m14b, m14c⟩ := cv_open X14.out) | (go_at_call 9; refine (SameCurve_eqB a4 b4 a5 b5 x4 y4 x5 y5 NX NY _ (by omega) (by have := HL.out; omega) (O4.out.ats.1.step (by repeat' (first | exact Below.refl _ _ | assumption | apply bDrewN | apply bDrew | apply bAlloc | (refine bSet ?_ ?_ _) | (refine bStep ?_ (by assumption)) | omega | (simp <;> omega)))) (O4.out.ats.2.step (by repeat' (first | exact Below.refl _ _ | assumption | apply bDrewN | apply bDrew | apply bAlloc | (refine bSet ?_ ?_ _) | (refine bStep ?_ (by assumption)) | omega | (simp <;> omega)))) (Q5.out.1.step (by repeat' (first | exact Below.refl _ _ | assumption | apply bDrewN | apply bDrew | apply bAlloc | (refine bSet ?_ ?_ _) | (refine bStep ?_ (by assumption)) | omega | (simp <;> omega)))) (Q5.out.2.step (by repeat' (first | exact Below.refl _ _ | assumption | apply bDrewN | apply bDrew | apply bAlloc | (refine bSet ?_ ?_ _) | (refine bStep ?_ (by assumption)) | omega | (simp <;> omega))))).mono ?_; rintro e w6 ⟨rfl, hb6⟩; have P6 := Lib.hid (P5.out.step (bStep bAlZ hb6)); obtain ⟨c0, c1, k0⟩ := cv_open (P6.out.sb _ (List.mem_cons_self ..)); obtain ⟨c2, c3, k1⟩ := cv_open (P6.out.sb _ (List.mem_cons_of_mem _ (List.mem_cons_self ..))); obtain ⟨c4, c5, k2⟩ := cv_open P6.out.bx; replace X10 := Lib.hid (blk_step X10.out (bStep bAlZ hb6)); obtain ⟨m10a, m10b, m10c⟩ := cv_open X10.out; replace X14 := Lib.hid (blk_step X14.out (bStep bAlZ hb6)); obtain ⟨m14a, m14b, m14c⟩ := cv_open X14.out; have X16 := Lib.hid (blk_step (blk_new w5 (.cells #[.slice a5 NX.length x5, .slice b5 NY.length y5] 24)) hb6); obtain ⟨m16a, m16b, m16c⟩ := cv_open X16.out) | (go_at_call 12; refine (CZ.out a4 b4 x4 y4 _ (O4.out.ats.1.step (by repeat' (first | exact Below.refl _ _ | assumption | apply bDrewN | apply bDrew | apply bAlloc | (refine bSet ?_ ?_ _) | (refine bStep ?_ (by assumption)) | omega | (simp <;> omega)))) (O4.out.ats.2.step (by repeat' (first | exact Below.refl _ _ | assumption | apply bDrewN | apply bDrew | apply bAlloc | (refine bSet ?_ ?_ _) | (refine bStep ?_ (by assumption)) | omega | (simp <;> omega))))).mono ?_; rintro e w7 ⟨rfl, hb7⟩; replace X10 := Lib.hid (blk_step X10.out hb7); obtain ⟨m10a, m10b, m10c⟩ := cv_open X10.out; replace X14 := Lib.hid (blk_step X14.out hb7); obtain ⟨m14a, m14b, m14c⟩ := cv_open X14.out))
        go_loopw [18] (fun i wr => ∃ j : Nat, j ≤ NX.length ∧ i = .int .i64 j ∧ Hid (ZSt w3 w4.heap.size a4 b4 x4 y4 NX.length wr)) (fun i _ => NX.length - (intOf i).toNat)
        case atStart => exact ⟨0, by omega, rfl, Lib.hid (ZSt.start O4.out HL.out.2 (Nat.le_refl _) hb4 (by repeat' (first | exact Below.refl _ _ | assumption | apply bDrewN | apply bDrew | apply bAlloc | (refine bSet ?_ ?_ _) | (refine bStep ?_ (by assumption)) | omega | (simp <;> omega))) X14.out)⟩
        case round =>
          obtain ⟨j, hj, rfl, Z0⟩ := hrel
          obtain ⟨z0, z1, kz⟩ := cv_open Z0.out.bx
          have i1 : (0 : Int) ≤ (j : Int) := by omega
          by_cases hlt : j < NX.length
          · have hlt2 : (j : Int) < NX.length := by omega
            obtain ⟨gx, gy, u, v, rfl, rfl, n1, n2, n3, e1, e2, e3, e4⟩ := Z0.out.cells hlt
            have hnx := Lib.hid (fun x y => Z0.out.next (x := x) (y := y) hlt)
            go_wp2_with fail
            go_roundw
            case rel => exact ⟨j + 1, by omega, by push_cast; rfl, Lib.hid (hnx.out _ _)⟩
            case measure => (simp [intOf]; omega)
          · have hle : ¬ (j : Int) < NX.length := by omega
            have hbZ := Z0.out.bel
            have XB := Lib.hid (blk_step XA.out hbZ)
            obtain ⟨y0, y1', ky⟩ := cv_open XB.out
            go_wp2_with fail
            go_loopw [19] (fun i w2r => ∃ j : Nat, j ≤ MX.length ∧ i = .int .i64 j ∧ Hid (ZSt wc w1.heap.size a1 b1 x1 y1 MX.length w2r)) (fun i _ => MX.length - (intOf i).toNat)
            case atStart => exact ⟨0, by omega, rfl, Lib.hid (ZSt.start O1.out HL.out.1 (Nat.le_refl _) hb1 (by repeat' (first | exact Below.refl _ _ | assumption | apply bDrewN | apply bDrew | apply bAlloc | (refine bSet ?_ ?_ _) | (refine bStep ?_ (by assumption)) | omega | (simp <;> omega))) XB.out)⟩
            case round =>
              obtain ⟨j2, hj2, rfl, Z2⟩ := hrel
              obtain ⟨t0, t1, kt⟩ := cv_open Z2.out.bx
              have i2 : (0 : Int) ≤ (j2 : Int) := by omega
              by_cases hlt3 : j2 < MX.length
              · have hlt4 : (j2 : Int) < MX.length := by omega
                obtain ⟨gx, gy, u, v, rfl, rfl, n1, n2, n3, e1, e2, e3, e4⟩ := Z2.out.cells hlt3
                have hnx := Lib.hid (fun x y => Z2.out.next (x := x) (y := y) hlt3)
                go_wp2_with fail
                go_roundw
                case rel => exact ⟨j2 + 1, by omega, by push_cast; rfl, Lib.hid (hnx.out _ _)⟩
                case measure => (simp [intOf]; omega)
              · have hle2 : ¬ (j2 : Int) < MX.length := by omega
                have HW := Lib.hid Z2.out.bel
                have hbW := HW.out
                have PW := Lib.hid (P0.out.step HW.out)
                obtain ⟨c0, c1, k0⟩ := cv_open (PW.out.sb _ (List.mem_cons_self ..)); obtain ⟨c2, c3, k1⟩ := cv_open (PW.out.sb _ (List.mem_cons_of_mem _ (List.mem_cons_self ..))); obtain ⟨c4, c5, k2⟩ := cv_open PW.out.bx
                go_wp2_with (first | (go_at_call 9; refine (SameCurve_eqB a b pa pb c d ca cb xs ys _ (by omega) (by omega) (P0.out.rx.step HW.out) (P0.out.ry.step HW.out) (HA.out.step (bStep HBel HW.out)) (HB.out.step (bStep HBel HW.out))).mono ?_; rintro e w8 ⟨rfl, hb8⟩) | (go_at_call 6; refine (works_any _).mono ?_; rintro e w9 ⟨rfl, hb9⟩))
                go_ret
                exact ⟨rfl, (by repeat' (first | exact Below.refl _ _ | assumption | apply bDrewN | apply bDrew | apply bAlloc | (refine bSet ?_ ?_ _) | (refine bStep ?_ (by assumption)) | omega | (simp <;> omega)))⟩
  · have h4 : 200 < (xs.length : Int) ∨ ((xs.length : Int) ≤ 200 ∧ 200 < (ys.length : Int)) ∨ ((xs.length : Int) ≤ 200 ∧ (ys.length : Int) ≤ 200 ∧ 200 < (us.length : Int)) ∨ ((xs.length : Int) ≤ 200 ∧ (ys.length : Int) ≤ 200 ∧ (us.length : Int) ≤ 200 ∧ 200 < (vs.length : Int)) := by omega
    clear hlen
    rcases h4 with h4 | ⟨h4, h5⟩ | ⟨h4, h5, h6⟩ | ⟨h4, h5, h6, h7⟩
    all_goals
      go_enter Try.func3, Try.ntmps3
      go_wp2_with (go_at_call 6; refine (works_any _).mono ?_; rintro e w9 ⟨rfl, hb9⟩)
      go_ret
      exact ⟨rfl, (by repeat' (first | exact Below.refl _ _ | assumption | apply bDrewN | apply bDrew | apply bAlloc | (refine bSet ?_ ?_ _) | (refine bStep ?_ (by assumption)) | omega | (simp <;> omega)))⟩

end Go.Proofs.Ytkldlmbccdfjdaa
