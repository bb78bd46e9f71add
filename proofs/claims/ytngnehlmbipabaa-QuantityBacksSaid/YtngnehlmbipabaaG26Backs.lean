/-
  Back, at a valid curve and a valid span.
-/
import Derived.Test.YtngnehlmbipabaaG25Backs
set_option linter.unusedSimpArgs false
set_option linter.unusedVariables false
namespace Go.Proofs.Ytngnehlmbipabaa
open Go.RowKit
def backR (first : Int) (lo ov : Nat) : (Int × Int) × Int := if ov ≤ lo then ((0, 0), 5) else ((first + lo, first + ov - 1), 0)
/-- Two numbers that go into boxes of their own. -/
structure TwoI (w0 : World) (x y : Int) (b0 b1 b2 b3 : Bool) (v0 v1 : Value) (W : World) : Prop where
  bel : Below w0.heap.size w0 W
  bx : b0 = true → ∃ r, v0 = .pointer (some ⟨r, 0, none⟩) ∧ w0.heap.size ≤ r ∧ W.heap[r]? = some (.cells #[.int .i64 (bif b2 then x else 0)] 2)
  by_ : b1 = true → ∃ r, v1 = .pointer (some ⟨r, 0, none⟩) ∧ w0.heap.size ≤ r ∧ W.heap[r]? = some (.cells #[.int .i64 (bif b3 then y else 0)] 2)
  ap : b0 = true → b1 = true → v0 ≠ v1
  i2 : b2 = true → b0 = true
  i3 : b3 = true → b1 = true
section
variable {w0 W w2 : World} {x y : Int} {b0 b1 b2 b3 : Bool} {v0 v1 : Value}
theorem TwoI.swap (h : TwoI w0 x y b0 b1 b2 b3 v0 v1 W) : TwoI w0 y x b1 b0 b3 b2 v1 v0 W := ⟨h.bel, h.by_, h.bx, fun e e' c => h.ap e' e c.symm, h.i3, h.i2⟩
theorem TwoI.step (h : TwoI w0 x y b0 b1 b2 b3 v0 v1 W) (hb : Below W.heap.size W w2) : TwoI w0 x y b0 b1 b2 b3 v0 v1 w2 :=
  ⟨bStep h.bel hb, fun e => by obtain ⟨r, q1, q2, q3⟩ := h.bx e; exact ⟨r, q1, q2, blk_step q3 hb⟩, fun e => by obtain ⟨r, q1, q2, q3⟩ := h.by_ e; exact ⟨r, q1, q2, blk_step q3 hb⟩, h.ap, h.i2, h.i3⟩
theorem TwoI.mk0 (h : TwoI w0 x y false b1 b2 b3 v0 v1 W) : TwoI w0 x y true b1 b2 b3 (.pointer (some ⟨W.heap.size, 0, none⟩)) v1 (W.alloc (.cells #[.int .i64 0] 2)) := by
  have hb2 : b2 = false := by
    cases b2 with
    | false => rfl
    | true => exact absurd (h.i2 rfl) (by decide)
  subst hb2
  have k := h.step (bAlZu (o := .cells #[.int .i64 0] 2))
  refine ⟨k.bel, fun _ => ⟨_, rfl, h.bel.size, blk_new W _⟩, k.by_, fun _ e c => ?_, fun _ => rfl, h.i3⟩
  obtain ⟨r, q1, q2, q3⟩ := h.by_ e
  have := blk_lt q3
  rw [q1] at c
  injection c with c1
  injection c1 with c2
  injection c2 with c3
  omega
theorem TwoI.put0 {r : Nat} (h : TwoI w0 x y true b1 false b3 (.pointer (some ⟨r, 0, none⟩)) v1 W) : TwoI w0 x y true b1 true b3 (.pointer (some ⟨r, 0, none⟩)) v1 (W.setCell ⟨r, 0, none⟩ (.int .i64 x)) := by
  obtain ⟨r', q1, q2, q3⟩ := h.bx rfl
  cases q1
  refine ⟨h.bel.setCell q2 _, fun _ => ⟨r, rfl, q2, (blk_set q3).trans rfl⟩, fun e => ?_, h.ap, fun _ => rfl, h.i3⟩
  obtain ⟨r2, p1, p2, p3⟩ := h.by_ e
  refine ⟨r2, p1, p2, blk_set_other p3 (fun c => h.ap rfl e ?_)⟩
  rw [p1]
  have c' : r2 = r := c
  rw [c']
end
/-- What Back holds on to. -/
structure BkQ (w : World) (bf bl : Nat) (sx sy : Value) (first last s1 s2 : Int) (W : World) : Prop where
  bel : Below w.heap.size w W
  cap : CapQ bf bl w.heap.size (w.heap.size + 1) sx sy first last s1 s2 W
  rb : W.heap[w.heap.size + 2]? = some (.cells #[.int .i64 0, .int .i64 0] 40)
theorem BkQ.step {w : World} {bf bl : Nat} {sx sy : Value} {first last s1 s2 : Int} {W w2 : World} (h : BkQ w bf bl sx sy first last s1 s2 W) (hb : Below W.heap.size W w2) : BkQ w bf bl sx sy first last s1 s2 w2 := ⟨bStep h.bel hb, h.cap.step hb, blk_step h.rb hb⟩
set_option maxHeartbeats 4000000 in
set_option maxRecDepth 20000 in
theorem Back_ok (bu ou cu bv ov cv n : Nat) (xs ys : List Int) (s1 s2 : Int) (w : World) (hC : checkC xs ys = 0) (hs : okS (s1, s2) = true) (hn : xs.getD (xs.length - 1) 0 - xs.getD 0 0 + 1 = (n : Nat)) (hA : IntAt (some ⟨bu, ou, none⟩) xs w) (hB : IntAt (some ⟨bv, ov, none⟩) ys w)
    (hp : ∀ t a b, a ≤ b → predV xs ys (xs.getD 0 0) s1 s2 t a = true → predV xs ys (xs.getD 0 0) s1 s2 t b = true) :
    Calls Try.prog 15 #[.agg #[(.slice (some ⟨bu, ou, none⟩) xs.length cu), (.slice (some ⟨bv, ov, none⟩) xs.length cv)], .agg #[.int .i64 s1, .int .i64 s2]] w fun e w' => (∃ lo ov : Nat, e = .returned (.tuple #[.agg #[.int .i64 (backR (xs.getD 0 0) lo ov).1.1, .int .i64 (backR (xs.getD 0 0) lo ov).1.2], .int .i64 (backR (xs.getD 0 0) lo ov).2]) ∧ Least n (predV xs ys (xs.getD 0 0) s1 s2 true) lo ∧ Least n (predV xs ys (xs.getD 0 0) s1 s2 false) ov) ∧ Below w.heap.size w w' := by
  have hg := checkC_good hC
  have p1 := hg.1.1.1
  have h64 := hg.2
  have p2 := hg.1.1.2.1
  have p3 := hg.1.1.2.2.1
  have hf : isQ (xs.getD 0 0) = true := (isQ_iff _).2 (allQ_getD p3 0)
  have hl : isQ (xs.getD (xs.length - 1) 0) = true := (isQ_iff _).2 (allQ_getD p3 _)
  have hfq := (isQ_iff _).1 hf
  have hlq := (isQ_iff _).1 hl
  have C := Lib.hid (fun W h1 h2 => CheckCurve_any (some ⟨bu, ou, none⟩) (some ⟨bv, ov, none⟩) cu cv xs ys W (by have := hg.2; omega) (by have := hg.2; omega) h1 h2)
  rw [hC, ← p1] at C
  have F1 := Lib.hid (fun bf bl bc bs W h1 h2 h3 => From_true bu ou cu bv ov cv bf bl bc bs n xs ys (xs.getD 0 0) (xs.getD (xs.length - 1) 0) s1 s2 W hC hf hl hn h1 h2 (hp true) h3)
  have F2 := Lib.hid (fun bf bl bc bs W h1 h2 h3 => From_false bu ou cu bv ov cv bf bl bc bs n xs ys (xs.getD 0 0) (xs.getD (xs.length - 1) 0) s1 s2 W hC hf hl hn h1 h2 (hp false) h3)
  have hne : xs ≠ [] := fun e => by rw [e] at p2; simp at p2
  obtain ⟨_, _, e1, hbu, hcx⟩ := id (hA hne)
  cases e1
  have hfirst := hcx 0 (by omega)
  rw [Nat.add_zero] at hfirst
  have hlast := hcx (xs.length - 1) (by omega)
  have HA := Lib.hid hA
  have HB := Lib.hid hB
  have hS := okS_bd hs
  have m1 : (xs.length : Int) - 1 = ((xs.length - 1 : Nat) : Int) := by omega
  have m2 : xs.length - 1 < xs.length := by omega
  have m3 : ((xs.length - 1 : Nat) : Int) < xs.length := by omega
  have m4 : (0 : Int) < xs.length := by omega
  have BX := Lib.hid (three_boxesV (w := w) (o1 := .cells #[(.slice (some ⟨bu, ou, none⟩) xs.length cu), (.slice (some ⟨bv, ov, none⟩) xs.length cv)] 24) (o2 := .cells #[.int .i64 s1, .int .i64 s2] 40) (o3 := .cells #[.int .i64 0, .int .i64 0] 40))
  generalize predV xs ys (xs.getD 0 0) s1 s2 true = pt at *
  generalize predV xs ys (xs.getD 0 0) s1 s2 false = pf at *
  clear hg p1 p3 hA hB hC hp hcx hf hl hne
  generalize hm : xs.length - 1 = m at *
  have m5 : IntKind.i64.wrap ((m : Nat) : Int) = (m : Nat) := Go.IntWalk.i64_in _ ⟨by omega, by omega⟩
  generalize xs.getD 0 0 = first at *
  generalize xs.getD m 0 = last at *
  have VX := Lib.hid (fun (W : World) (g : Nat) (h0 : W.cell? ⟨g, 0, none⟩ = some (.int .i64 s1)) (h1 : W.cell? ⟨g, 1, none⟩ = some (.int .i64 s2)) => valid_row (.slice (some ⟨g, 0, none⟩) 1 1) [(s1, s2)] W (by simp) ⟨_, _, rfl, fun _ => ⟨g, 0, rfl, cell_lt h0, fun j hj => by
    obtain rfl : j = 0 := by simpa using hj
    exact ⟨h0, h1⟩⟩⟩)
  rw [show [(s1, s2)].all okS = true from by simp [hs]] at VX
  go_enter Try.func15, Try.ntmps15
  go_upto_region 6 with (first
    | (go_at_call 12; refine (C.out _ (HA.out.step (by repeat' (first | exact Below.refl _ _ | assumption | apply bDrewN | apply bDrew | apply bAlloc | (refine bSet ?_ ?_ _) | (refine bStep ?_ (by assumption)) | omega | (simp <;> omega)))) (HB.out.step (by repeat' (first | exact Below.refl _ _ | assumption | apply bDrewN | apply bDrew | apply bAlloc | (refine bSet ?_ ?_ _) | (refine bStep ?_ (by assumption)) | omega | (simp <;> omega))))).mono ?_; rintro e w1 ⟨rfl, hb1⟩; obtain ⟨c0, c1, k0⟩ := cv_open (blk_step BX.out.1 hb1); obtain ⟨c2, c3, k1⟩ := cv_open (blk_step BX.out.2.1 hb1); obtain ⟨c4, c5, f4, f5, k2⟩ := cv_openS (blk_step BX.out.2.2 hb1))
    | (go_at_call 54; refine (VX.out _ _ (blk_cell (blk_new _ _) rfl) (blk_cell (blk_new _ _) rfl)).mono ?_; rintro e w2 ⟨rfl, hb2⟩))
  have hb12 : Below w1.heap.size w1 w2 := bStep bAlZu hb2
  have kW2 : Below w.heap.size w w2 := (by repeat' (first | exact Below.refl _ _ | assumption | apply bDrewN | apply bDrew | apply bAlloc | (refine bSet ?_ ?_ _) | (refine bStep ?_ (by assumption)) | omega | (simp <;> omega)))
  have b0 := blk_step (blk_step BX.out.1 hb1) hb12
  have b1 := blk_step (blk_step BX.out.2.1 hb1) hb12
  have b2 := blk_step (blk_step BX.out.2.2 hb1) hb12
  have BB := Lib.hid (And.intro b0 (And.intro b1 b2))
  obtain ⟨d0, d1, l0⟩ := cv_open b0
  have g1 := (kW2.cell (p := ⟨bu, ou, none⟩) hbu).trans hfirst
  have g2 := (kW2.cell (p := ⟨bu, ou + m, none⟩) hbu).trans hlast
  have lbu : bu < w2.heap.size := Nat.lt_of_lt_of_le hbu kW2.size
  clear c0 c1 k0 c2 c3 k1 c4 c5 f4 f5 k2 hb1 hb2 hb12 b0 b1 b2 BX VX C
  go_cut [7, 8] (fun s7 s8 W => ∃ bf bl : Nat, s7 = .pointer (some ⟨bf, 0, none⟩) ∧ s8 = .pointer (some ⟨bl, 0, none⟩) ∧ BkQ w bf bl (.slice (some ⟨bu, ou, none⟩) xs.length cu) (.slice (some ⟨bv, ov, none⟩) xs.length cv) first last s1 s2 W)
  case first =>
    refine region_all 16 8 50 [(12, 7), (13, 8), (14, 52), (15, 53)] [(none, []), (none, []), (none, []), (none, []), (none, []), (none, []), (none, []), (none, []), (none, []), (none, []), (none, []), (none, []), (some 0, []), (some 1, []), (some 2, [0]), (some 3, [1])] [(23, (.pointer (some ⟨w.heap.size, 0, none⟩))), (24, (.slice (some ⟨bu, ou, none⟩) xs.length cu)), (25, (.pointer (some ⟨bu, ou, none⟩))), (26, (.int .i64 first)), (27, (.pointer (some ⟨w.heap.size, 0, none⟩))), (28, (.slice (some ⟨bu, ou, none⟩) xs.length cu)), (29, (.pointer (some ⟨w.heap.size, 0, none⟩))), (30, (.slice (some ⟨bu, ou, none⟩) xs.length cu)), (31, (.int .i64 (xs.length : Int))), (32, (.int .i64 (m : Int))), (33, (.pointer (some ⟨bu, ou + m, none⟩))), (34, (.int .i64 last))] (fun bsE vsE W => TwoI w2 first last (bsE.getD 0 false) (bsE.getD 1 false) (bsE.getD 2 false) (bsE.getD 3 false) (vsE.getD 0 undef) (vsE.getD 1 undef) W) (by kernel_rfl) (by kernel_rfl) rfl rfl (by kernel_rfl) (by rfl) ?h0 ?each ?done
    case h0 =>
      intro vsE hlv
      obtain ⟨v0, vsE0, rfl, hlv0⟩ := len_one hlv
      obtain ⟨v1, vsE1, rfl, hlv1⟩ := len_one hlv0
      obtain ⟨v2, vsE2, rfl, hlv2⟩ := len_one hlv1
      obtain ⟨v3, vsE3, rfl, hlv3⟩ := len_one hlv2
      obtain rfl := len_nil hlv3
      exact ⟨(by repeat' (first | exact Below.refl _ _ | assumption | apply bDrewN | apply bDrew | apply bAlloc | (refine bSet ?_ ?_ _) | (refine bStep ?_ (by assumption)) | omega | (simp <;> omega))), (fun e => by cases e), (fun e => by cases e), (fun e => by cases e), (fun e => by cases e), (fun e => by cases e)⟩
    case each =>
      simp only [AllE]
      refine ⟨?_, ?_, ?_, ?_, ?_, ?_, ?_, ?_, ?_, ?_, ?_, ?_, ?_, ?_, ?_, ?_, trivial⟩
      · refine ⟨23, (.pointer (some ⟨w.heap.size, 0, none⟩)), rfl, by kernel_rfl, ?_⟩
        intro bsE vsE W hlb hlv hnd h
        obtain ⟨b0, bsE0, rfl, hlb0⟩ := len_one hlb
        obtain ⟨v0, vsE0, rfl, hlv0⟩ := len_one hlv
        obtain ⟨b1, bsE1, rfl, hlb1⟩ := len_one hlb0
        obtain ⟨v1, vsE1, rfl, hlv1⟩ := len_one hlv0
        obtain ⟨b2, bsE2, rfl, hlb2⟩ := len_one hlb1
        obtain ⟨v2, vsE2, rfl, hlv2⟩ := len_one hlv1
        obtain ⟨b3, bsE3, rfl, hlb3⟩ := len_one hlb2
        obtain ⟨v3, vsE3, rfl, hlv3⟩ := len_one hlv2
        obtain rfl := len_nil hlb3
        obtain rfl := len_nil hlv3
        replace h : TwoI w2 first last b0 b1 b2 b3 v0 v1 W := h
        clear hnd
        have HST := Lib.hid h
        have u0 := (h.bel.cell (p := ⟨w.heap.size, 0, none⟩) l0).trans d0; have u1 := (h.bel.cell (p := ⟨bu, ou, none⟩) lbu).trans g1; have u2 := (h.bel.cell (p := ⟨bu, ou + m, none⟩) lbu).trans g2; have hs := h.bel.size
        intro K Q hK
        simp only [putE, updAll, Act.put, List.setIfInBounds_toArray, List.set_cons_zero, List.set_cons_succ, List.set_nil] at hK ⊢
        go_wp2_with (fail)
        all_goals (first | exact hK _ (by first | exact h | exact h.step (by first | assumption | (repeat' (first | exact Below.refl _ _ | apply bDrewN | apply bDrew)))) | exact (by first | exact h | exact h.step (by first | assumption | (repeat' (first | exact Below.refl _ _ | apply bDrewN | apply bDrew)))))
      · refine ⟨24, (.slice (some ⟨bu, ou, none⟩) xs.length cu), rfl, by kernel_rfl, ?_⟩
        intro bsE vsE W hlb hlv hnd h
        obtain ⟨b0, bsE0, rfl, hlb0⟩ := len_one hlb
        obtain ⟨v0, vsE0, rfl, hlv0⟩ := len_one hlv
        obtain ⟨b1, bsE1, rfl, hlb1⟩ := len_one hlb0
        obtain ⟨v1, vsE1, rfl, hlv1⟩ := len_one hlv0
        obtain ⟨b2, bsE2, rfl, hlb2⟩ := len_one hlb1
        obtain ⟨v2, vsE2, rfl, hlv2⟩ := len_one hlv1
        obtain ⟨b3, bsE3, rfl, hlb3⟩ := len_one hlb2
        obtain ⟨v3, vsE3, rfl, hlv3⟩ := len_one hlv2
        obtain rfl := len_nil hlb3
        obtain rfl := len_nil hlv3
        replace h : TwoI w2 first last b0 b1 b2 b3 v0 v1 W := h
        clear hnd
        have HST := Lib.hid h
        have u0 := (h.bel.cell (p := ⟨w.heap.size, 0, none⟩) l0).trans d0; have u1 := (h.bel.cell (p := ⟨bu, ou, none⟩) lbu).trans g1; have u2 := (h.bel.cell (p := ⟨bu, ou + m, none⟩) lbu).trans g2; have hs := h.bel.size
        intro K Q hK
        simp only [putE, updAll, Act.put, List.setIfInBounds_toArray, List.set_cons_zero, List.set_cons_succ, List.set_nil] at hK ⊢
        go_wp2_with (fail)
        all_goals (first | exact hK _ (by first | exact h | exact h.step (by first | assumption | (repeat' (first | exact Below.refl _ _ | apply bDrewN | apply bDrew)))) | exact (by first | exact h | exact h.step (by first | assumption | (repeat' (first | exact Below.refl _ _ | apply bDrewN | apply bDrew)))))
      · refine ⟨25, (.pointer (some ⟨bu, ou, none⟩)), rfl, by kernel_rfl, ?_⟩
        intro bsE vsE W hlb hlv hnd h
        obtain ⟨b0, bsE0, rfl, hlb0⟩ := len_one hlb
        obtain ⟨v0, vsE0, rfl, hlv0⟩ := len_one hlv
        obtain ⟨b1, bsE1, rfl, hlb1⟩ := len_one hlb0
        obtain ⟨v1, vsE1, rfl, hlv1⟩ := len_one hlv0
        obtain ⟨b2, bsE2, rfl, hlb2⟩ := len_one hlb1
        obtain ⟨v2, vsE2, rfl, hlv2⟩ := len_one hlv1
        obtain ⟨b3, bsE3, rfl, hlb3⟩ := len_one hlb2
        obtain ⟨v3, vsE3, rfl, hlv3⟩ := len_one hlv2
        obtain rfl := len_nil hlb3
        obtain rfl := len_nil hlv3
        replace h : TwoI w2 first last b0 b1 b2 b3 v0 v1 W := h
        clear hnd
        have HST := Lib.hid h
        have u0 := (h.bel.cell (p := ⟨w.heap.size, 0, none⟩) l0).trans d0; have u1 := (h.bel.cell (p := ⟨bu, ou, none⟩) lbu).trans g1; have u2 := (h.bel.cell (p := ⟨bu, ou + m, none⟩) lbu).trans g2; have hs := h.bel.size
        intro K Q hK
        simp only [putE, updAll, Act.put, List.setIfInBounds_toArray, List.set_cons_zero, List.set_cons_succ, List.set_nil] at hK ⊢
        go_wp2_with (fail)
        all_goals (first | exact hK _ (by first | exact h | exact h.step (by first | assumption | (repeat' (first | exact Below.refl _ _ | apply bDrewN | apply bDrew)))) | exact (by first | exact h | exact h.step (by first | assumption | (repeat' (first | exact Below.refl _ _ | apply bDrewN | apply bDrew)))))
      · refine ⟨26, (.int .i64 first), rfl, by kernel_rfl, ?_⟩
        intro bsE vsE W hlb hlv hnd h
        obtain ⟨b0, bsE0, rfl, hlb0⟩ := len_one hlb
        obtain ⟨v0, vsE0, rfl, hlv0⟩ := len_one hlv
        obtain ⟨b1, bsE1, rfl, hlb1⟩ := len_one hlb0
        obtain ⟨v1, vsE1, rfl, hlv1⟩ := len_one hlv0
        obtain ⟨b2, bsE2, rfl, hlb2⟩ := len_one hlb1
        obtain ⟨v2, vsE2, rfl, hlv2⟩ := len_one hlv1
        obtain ⟨b3, bsE3, rfl, hlb3⟩ := len_one hlb2
        obtain ⟨v3, vsE3, rfl, hlv3⟩ := len_one hlv2
        obtain rfl := len_nil hlb3
        obtain rfl := len_nil hlv3
        replace h : TwoI w2 first last b0 b1 b2 b3 v0 v1 W := h
        clear hnd
        have HST := Lib.hid h
        have u0 := (h.bel.cell (p := ⟨w.heap.size, 0, none⟩) l0).trans d0; have u1 := (h.bel.cell (p := ⟨bu, ou, none⟩) lbu).trans g1; have u2 := (h.bel.cell (p := ⟨bu, ou + m, none⟩) lbu).trans g2; have hs := h.bel.size
        intro K Q hK
        simp only [putE, updAll, Act.put, List.setIfInBounds_toArray, List.set_cons_zero, List.set_cons_succ, List.set_nil] at hK ⊢
        go_wp2_with (fail)
        all_goals (first | exact hK _ (by first | exact h | exact h.step (by first | assumption | (repeat' (first | exact Below.refl _ _ | apply bDrewN | apply bDrew)))) | exact (by first | exact h | exact h.step (by first | assumption | (repeat' (first | exact Below.refl _ _ | apply bDrewN | apply bDrew)))))
      · refine ⟨27, (.pointer (some ⟨w.heap.size, 0, none⟩)), rfl, by kernel_rfl, ?_⟩
        intro bsE vsE W hlb hlv hnd h
        obtain ⟨b0, bsE0, rfl, hlb0⟩ := len_one hlb
        obtain ⟨v0, vsE0, rfl, hlv0⟩ := len_one hlv
        obtain ⟨b1, bsE1, rfl, hlb1⟩ := len_one hlb0
        obtain ⟨v1, vsE1, rfl, hlv1⟩ := len_one hlv0
        obtain ⟨b2, bsE2, rfl, hlb2⟩ := len_one hlb1
        obtain ⟨v2, vsE2, rfl, hlv2⟩ := len_one hlv1
        obtain ⟨b3, bsE3, rfl, hlb3⟩ := len_one hlb2
        obtain ⟨v3, vsE3, rfl, hlv3⟩ := len_one hlv2
        obtain rfl := len_nil hlb3
        obtain rfl := len_nil hlv3
        replace h : TwoI w2 first last b0 b1 b2 b3 v0 v1 W := h
        clear hnd
        have HST := Lib.hid h
        have u0 := (h.bel.cell (p := ⟨w.heap.size, 0, none⟩) l0).trans d0; have u1 := (h.bel.cell (p := ⟨bu, ou, none⟩) lbu).trans g1; have u2 := (h.bel.cell (p := ⟨bu, ou + m, none⟩) lbu).trans g2; have hs := h.bel.size
        intro K Q hK
        simp only [putE, updAll, Act.put, List.setIfInBounds_toArray, List.set_cons_zero, List.set_cons_succ, List.set_nil] at hK ⊢
        go_wp2_with (fail)
        all_goals (first | exact hK _ (by first | exact h | exact h.step (by first | assumption | (repeat' (first | exact Below.refl _ _ | apply bDrewN | apply bDrew)))) | exact (by first | exact h | exact h.step (by first | assumption | (repeat' (first | exact Below.refl _ _ | apply bDrewN | apply bDrew)))))
      · refine ⟨28, (.slice (some ⟨bu, ou, none⟩) xs.length cu), rfl, by kernel_rfl, ?_⟩
        intro bsE vsE W hlb hlv hnd h
        obtain ⟨b0, bsE0, rfl, hlb0⟩ := len_one hlb
        obtain ⟨v0, vsE0, rfl, hlv0⟩ := len_one hlv
        obtain ⟨b1, bsE1, rfl, hlb1⟩ := len_one hlb0
        obtain ⟨v1, vsE1, rfl, hlv1⟩ := len_one hlv0
        obtain ⟨b2, bsE2, rfl, hlb2⟩ := len_one hlb1
        obtain ⟨v2, vsE2, rfl, hlv2⟩ := len_one hlv1
        obtain ⟨b3, bsE3, rfl, hlb3⟩ := len_one hlb2
        obtain ⟨v3, vsE3, rfl, hlv3⟩ := len_one hlv2
        obtain rfl := len_nil hlb3
        obtain rfl := len_nil hlv3
        replace h : TwoI w2 first last b0 b1 b2 b3 v0 v1 W := h
        clear hnd
        have HST := Lib.hid h
        have u0 := (h.bel.cell (p := ⟨w.heap.size, 0, none⟩) l0).trans d0; have u1 := (h.bel.cell (p := ⟨bu, ou, none⟩) lbu).trans g1; have u2 := (h.bel.cell (p := ⟨bu, ou + m, none⟩) lbu).trans g2; have hs := h.bel.size
        intro K Q hK
        simp only [putE, updAll, Act.put, List.setIfInBounds_toArray, List.set_cons_zero, List.set_cons_succ, List.set_nil] at hK ⊢
        go_wp2_with (fail)
        all_goals (first | exact hK _ (by first | exact h | exact h.step (by first | assumption | (repeat' (first | exact Below.refl _ _ | apply bDrewN | apply bDrew)))) | exact (by first | exact h | exact h.step (by first | assumption | (repeat' (first | exact Below.refl _ _ | apply bDrewN | apply bDrew)))))
      · refine ⟨29, (.pointer (some ⟨w.heap.size, 0, none⟩)), rfl, by kernel_rfl, ?_⟩
        intro bsE vsE W hlb hlv hnd h
        obtain ⟨b0, bsE0, rfl, hlb0⟩ := len_one hlb
        obtain ⟨v0, vsE0, rfl, hlv0⟩ := len_one hlv
        obtain ⟨b1, bsE1, rfl, hlb1⟩ := len_one hlb0
        obtain ⟨v1, vsE1, rfl, hlv1⟩ := len_one hlv0
        obtain ⟨b2, bsE2, rfl, hlb2⟩ := len_one hlb1
        obtain ⟨v2, vsE2, rfl, hlv2⟩ := len_one hlv1
        obtain ⟨b3, bsE3, rfl, hlb3⟩ := len_one hlb2
        obtain ⟨v3, vsE3, rfl, hlv3⟩ := len_one hlv2
        obtain rfl := len_nil hlb3
        obtain rfl := len_nil hlv3
        replace h : TwoI w2 first last b0 b1 b2 b3 v0 v1 W := h
        clear hnd
        have HST := Lib.hid h
        have u0 := (h.bel.cell (p := ⟨w.heap.size, 0, none⟩) l0).trans d0; have u1 := (h.bel.cell (p := ⟨bu, ou, none⟩) lbu).trans g1; have u2 := (h.bel.cell (p := ⟨bu, ou + m, none⟩) lbu).trans g2; have hs := h.bel.size
        intro K Q hK
        simp only [putE, updAll, Act.put, List.setIfInBounds_toArray, List.set_cons_zero, List.set_cons_succ, List.set_nil] at hK ⊢
        go_wp2_with (fail)
        all_goals (first | exact hK _ (by first | exact h | exact h.step (by first | assumption | (repeat' (first | exact Below.refl _ _ | apply bDrewN | apply bDrew)))) | exact (by first | exact h | exact h.step (by first | assumption | (repeat' (first | exact Below.refl _ _ | apply bDrewN | apply bDrew)))))
      · refine ⟨30, (.slice (some ⟨bu, ou, none⟩) xs.length cu), rfl, by kernel_rfl, ?_⟩
        intro bsE vsE W hlb hlv hnd h
        obtain ⟨b0, bsE0, rfl, hlb0⟩ := len_one hlb
        obtain ⟨v0, vsE0, rfl, hlv0⟩ := len_one hlv
        obtain ⟨b1, bsE1, rfl, hlb1⟩ := len_one hlb0
        obtain ⟨v1, vsE1, rfl, hlv1⟩ := len_one hlv0
        obtain ⟨b2, bsE2, rfl, hlb2⟩ := len_one hlb1
        obtain ⟨v2, vsE2, rfl, hlv2⟩ := len_one hlv1
        obtain ⟨b3, bsE3, rfl, hlb3⟩ := len_one hlb2
        obtain ⟨v3, vsE3, rfl, hlv3⟩ := len_one hlv2
        obtain rfl := len_nil hlb3
        obtain rfl := len_nil hlv3
        replace h : TwoI w2 first last b0 b1 b2 b3 v0 v1 W := h
        clear hnd
        have HST := Lib.hid h
        have u0 := (h.bel.cell (p := ⟨w.heap.size, 0, none⟩) l0).trans d0; have u1 := (h.bel.cell (p := ⟨bu, ou, none⟩) lbu).trans g1; have u2 := (h.bel.cell (p := ⟨bu, ou + m, none⟩) lbu).trans g2; have hs := h.bel.size
        intro K Q hK
        simp only [putE, updAll, Act.put, List.setIfInBounds_toArray, List.set_cons_zero, List.set_cons_succ, List.set_nil] at hK ⊢
        go_wp2_with (fail)
        all_goals (first | exact hK _ (by first | exact h | exact h.step (by first | assumption | (repeat' (first | exact Below.refl _ _ | apply bDrewN | apply bDrew)))) | exact (by first | exact h | exact h.step (by first | assumption | (repeat' (first | exact Below.refl _ _ | apply bDrewN | apply bDrew)))))
      · refine ⟨31, (.int .i64 (xs.length : Int)), rfl, by kernel_rfl, ?_⟩
        intro bsE vsE W hlb hlv hnd h
        obtain ⟨b0, bsE0, rfl, hlb0⟩ := len_one hlb
        obtain ⟨v0, vsE0, rfl, hlv0⟩ := len_one hlv
        obtain ⟨b1, bsE1, rfl, hlb1⟩ := len_one hlb0
        obtain ⟨v1, vsE1, rfl, hlv1⟩ := len_one hlv0
        obtain ⟨b2, bsE2, rfl, hlb2⟩ := len_one hlb1
        obtain ⟨v2, vsE2, rfl, hlv2⟩ := len_one hlv1
        obtain ⟨b3, bsE3, rfl, hlb3⟩ := len_one hlb2
        obtain ⟨v3, vsE3, rfl, hlv3⟩ := len_one hlv2
        obtain rfl := len_nil hlb3
        obtain rfl := len_nil hlv3
        replace h : TwoI w2 first last b0 b1 b2 b3 v0 v1 W := h
        clear hnd
        have HST := Lib.hid h
        have u0 := (h.bel.cell (p := ⟨w.heap.size, 0, none⟩) l0).trans d0; have u1 := (h.bel.cell (p := ⟨bu, ou, none⟩) lbu).trans g1; have u2 := (h.bel.cell (p := ⟨bu, ou + m, none⟩) lbu).trans g2; have hs := h.bel.size
        intro K Q hK
        simp only [putE, updAll, Act.put, List.setIfInBounds_toArray, List.set_cons_zero, List.set_cons_succ, List.set_nil] at hK ⊢
        go_wp2_with (fail)
        all_goals (first | exact hK _ (by first | exact h | exact h.step (by first | assumption | (repeat' (first | exact Below.refl _ _ | apply bDrewN | apply bDrew)))) | exact (by first | exact h | exact h.step (by first | assumption | (repeat' (first | exact Below.refl _ _ | apply bDrewN | apply bDrew)))))
      · refine ⟨32, (.int .i64 (m : Int)), rfl, by kernel_rfl, ?_⟩
        intro bsE vsE W hlb hlv hnd h
        obtain ⟨b0, bsE0, rfl, hlb0⟩ := len_one hlb
        obtain ⟨v0, vsE0, rfl, hlv0⟩ := len_one hlv
        obtain ⟨b1, bsE1, rfl, hlb1⟩ := len_one hlb0
        obtain ⟨v1, vsE1, rfl, hlv1⟩ := len_one hlv0
        obtain ⟨b2, bsE2, rfl, hlb2⟩ := len_one hlb1
        obtain ⟨v2, vsE2, rfl, hlv2⟩ := len_one hlv1
        obtain ⟨b3, bsE3, rfl, hlb3⟩ := len_one hlb2
        obtain ⟨v3, vsE3, rfl, hlv3⟩ := len_one hlv2
        obtain rfl := len_nil hlb3
        obtain rfl := len_nil hlv3
        replace h : TwoI w2 first last b0 b1 b2 b3 v0 v1 W := h
        clear hnd
        have HST := Lib.hid h
        have u0 := (h.bel.cell (p := ⟨w.heap.size, 0, none⟩) l0).trans d0; have u1 := (h.bel.cell (p := ⟨bu, ou, none⟩) lbu).trans g1; have u2 := (h.bel.cell (p := ⟨bu, ou + m, none⟩) lbu).trans g2; have hs := h.bel.size
        intro K Q hK
        simp only [putE, updAll, Act.put, List.setIfInBounds_toArray, List.set_cons_zero, List.set_cons_succ, List.set_nil] at hK ⊢
        go_wp2_with (fail)
        all_goals (first | exact hK _ (by first | exact h | exact h.step (by first | assumption | (repeat' (first | exact Below.refl _ _ | apply bDrewN | apply bDrew)))) | exact (by first | exact h | exact h.step (by first | assumption | (repeat' (first | exact Below.refl _ _ | apply bDrewN | apply bDrew)))))
      · refine ⟨33, (.pointer (some ⟨bu, ou + m, none⟩)), rfl, by kernel_rfl, ?_⟩
        intro bsE vsE W hlb hlv hnd h
        obtain ⟨b0, bsE0, rfl, hlb0⟩ := len_one hlb
        obtain ⟨v0, vsE0, rfl, hlv0⟩ := len_one hlv
        obtain ⟨b1, bsE1, rfl, hlb1⟩ := len_one hlb0
        obtain ⟨v1, vsE1, rfl, hlv1⟩ := len_one hlv0
        obtain ⟨b2, bsE2, rfl, hlb2⟩ := len_one hlb1
        obtain ⟨v2, vsE2, rfl, hlv2⟩ := len_one hlv1
        obtain ⟨b3, bsE3, rfl, hlb3⟩ := len_one hlb2
        obtain ⟨v3, vsE3, rfl, hlv3⟩ := len_one hlv2
        obtain rfl := len_nil hlb3
        obtain rfl := len_nil hlv3
        replace h : TwoI w2 first last b0 b1 b2 b3 v0 v1 W := h
        clear hnd
        have HST := Lib.hid h
        have u0 := (h.bel.cell (p := ⟨w.heap.size, 0, none⟩) l0).trans d0; have u1 := (h.bel.cell (p := ⟨bu, ou, none⟩) lbu).trans g1; have u2 := (h.bel.cell (p := ⟨bu, ou + m, none⟩) lbu).trans g2; have hs := h.bel.size
        intro K Q hK
        simp only [putE, updAll, Act.put, List.setIfInBounds_toArray, List.set_cons_zero, List.set_cons_succ, List.set_nil] at hK ⊢
        go_wp2_with (fail)
        all_goals (first | exact hK _ (by first | exact h | exact h.step (by first | assumption | (repeat' (first | exact Below.refl _ _ | apply bDrewN | apply bDrew)))) | exact (by first | exact h | exact h.step (by first | assumption | (repeat' (first | exact Below.refl _ _ | apply bDrewN | apply bDrew)))))
      · refine ⟨34, (.int .i64 last), rfl, by kernel_rfl, ?_⟩
        intro bsE vsE W hlb hlv hnd h
        obtain ⟨b0, bsE0, rfl, hlb0⟩ := len_one hlb
        obtain ⟨v0, vsE0, rfl, hlv0⟩ := len_one hlv
        obtain ⟨b1, bsE1, rfl, hlb1⟩ := len_one hlb0
        obtain ⟨v1, vsE1, rfl, hlv1⟩ := len_one hlv0
        obtain ⟨b2, bsE2, rfl, hlb2⟩ := len_one hlb1
        obtain ⟨v2, vsE2, rfl, hlv2⟩ := len_one hlv1
        obtain ⟨b3, bsE3, rfl, hlb3⟩ := len_one hlb2
        obtain ⟨v3, vsE3, rfl, hlv3⟩ := len_one hlv2
        obtain rfl := len_nil hlb3
        obtain rfl := len_nil hlv3
        replace h : TwoI w2 first last b0 b1 b2 b3 v0 v1 W := h
        clear hnd
        have HST := Lib.hid h
        have u0 := (h.bel.cell (p := ⟨w.heap.size, 0, none⟩) l0).trans d0; have u1 := (h.bel.cell (p := ⟨bu, ou, none⟩) lbu).trans g1; have u2 := (h.bel.cell (p := ⟨bu, ou + m, none⟩) lbu).trans g2; have hs := h.bel.size
        intro K Q hK
        simp only [putE, updAll, Act.put, List.setIfInBounds_toArray, List.set_cons_zero, List.set_cons_succ, List.set_nil] at hK ⊢
        go_wp2_with (fail)
        all_goals (first | exact hK _ (by first | exact h | exact h.step (by first | assumption | (repeat' (first | exact Below.refl _ _ | apply bDrewN | apply bDrew)))) | exact (by first | exact h | exact h.step (by first | assumption | (repeat' (first | exact Below.refl _ _ | apply bDrewN | apply bDrew)))))
      · refine Or.inl ⟨7, rfl, ?_⟩
        intro bsE vsE W hlb hlv hnd hbk h
        obtain ⟨b0, bsE0, rfl, hlb0⟩ := len_one hlb
        obtain ⟨v0, vsE0, rfl, hlv0⟩ := len_one hlv
        obtain ⟨b1, bsE1, rfl, hlb1⟩ := len_one hlb0
        obtain ⟨v1, vsE1, rfl, hlv1⟩ := len_one hlv0
        obtain ⟨b2, bsE2, rfl, hlb2⟩ := len_one hlb1
        obtain ⟨v2, vsE2, rfl, hlv2⟩ := len_one hlv1
        obtain ⟨b3, bsE3, rfl, hlb3⟩ := len_one hlb2
        obtain ⟨v3, vsE3, rfl, hlv3⟩ := len_one hlv2
        obtain rfl := len_nil hlb3
        obtain rfl := len_nil hlv3
        obtain rfl : b0 = false := hbk
        replace h : TwoI w2 first last false b1 b2 b3 v0 v1 W := h
        clear hnd
        have HST := Lib.hid h
        have u0 := (h.bel.cell (p := ⟨w.heap.size, 0, none⟩) l0).trans d0; have u1 := (h.bel.cell (p := ⟨bu, ou, none⟩) lbu).trans g1; have u2 := (h.bel.cell (p := ⟨bu, ou + m, none⟩) lbu).trans g2; have hs := h.bel.size
        intro K Q hK
        simp only [putE, updAll, Act.put, List.setIfInBounds_toArray, List.set_cons_zero, List.set_cons_succ, List.set_nil] at hK ⊢
        go_wp2_with fail
        all_goals (first | exact hK _ _ h.mk0 | exact h.mk0)
      · refine Or.inl ⟨8, rfl, ?_⟩
        intro bsE vsE W hlb hlv hnd hbk h
        obtain ⟨b0, bsE0, rfl, hlb0⟩ := len_one hlb
        obtain ⟨v0, vsE0, rfl, hlv0⟩ := len_one hlv
        obtain ⟨b1, bsE1, rfl, hlb1⟩ := len_one hlb0
        obtain ⟨v1, vsE1, rfl, hlv1⟩ := len_one hlv0
        obtain ⟨b2, bsE2, rfl, hlb2⟩ := len_one hlb1
        obtain ⟨v2, vsE2, rfl, hlv2⟩ := len_one hlv1
        obtain ⟨b3, bsE3, rfl, hlb3⟩ := len_one hlb2
        obtain ⟨v3, vsE3, rfl, hlv3⟩ := len_one hlv2
        obtain rfl := len_nil hlb3
        obtain rfl := len_nil hlv3
        obtain rfl : b1 = false := hbk
        replace h : TwoI w2 first last b0 false b2 b3 v0 v1 W := h
        clear hnd
        have HST := Lib.hid h
        have u0 := (h.bel.cell (p := ⟨w.heap.size, 0, none⟩) l0).trans d0; have u1 := (h.bel.cell (p := ⟨bu, ou, none⟩) lbu).trans g1; have u2 := (h.bel.cell (p := ⟨bu, ou + m, none⟩) lbu).trans g2; have hs := h.bel.size
        intro K Q hK
        simp only [putE, updAll, Act.put, List.setIfInBounds_toArray, List.set_cons_zero, List.set_cons_succ, List.set_nil] at hK ⊢
        go_wp2_with fail
        all_goals (first | exact hK _ _ h.swap.mk0.swap | exact h.swap.mk0.swap)
      · refine Or.inr ⟨rfl, ?_⟩
        intro bsE vsE W hlb hlv hnd hbk h
        obtain ⟨b0, bsE0, rfl, hlb0⟩ := len_one hlb
        obtain ⟨v0, vsE0, rfl, hlv0⟩ := len_one hlv
        obtain ⟨b1, bsE1, rfl, hlb1⟩ := len_one hlb0
        obtain ⟨v1, vsE1, rfl, hlv1⟩ := len_one hlv0
        obtain ⟨b2, bsE2, rfl, hlb2⟩ := len_one hlb1
        obtain ⟨v2, vsE2, rfl, hlv2⟩ := len_one hlv1
        obtain ⟨b3, bsE3, rfl, hlb3⟩ := len_one hlb2
        obtain ⟨v3, vsE3, rfl, hlv3⟩ := len_one hlv2
        obtain rfl := len_nil hlb3
        obtain rfl := len_nil hlv3
        obtain rfl : b0 = true := hnd 0 (by simp)
        obtain rfl : b2 = false := hbk
        replace h : TwoI w2 first last true b1 false b3 v0 v1 W := h
        clear hnd
        have HST := Lib.hid h
        obtain ⟨q, eq, hq1, hq2⟩ := h.bx rfl; subst eq; have t0 := blk_cell (o := 0) hq2 rfl; have t1 := blk_free (o := 0) hq2
        intro K Q hK
        simp only [putE, updAll, Act.put, List.setIfInBounds_toArray, List.set_cons_zero, List.set_cons_succ, List.set_nil] at hK ⊢
        go_wp2_with fail
        all_goals (first | exact hK _ h.put0 | exact h.put0)
      · refine Or.inr ⟨rfl, ?_⟩
        intro bsE vsE W hlb hlv hnd hbk h
        obtain ⟨b0, bsE0, rfl, hlb0⟩ := len_one hlb
        obtain ⟨v0, vsE0, rfl, hlv0⟩ := len_one hlv
        obtain ⟨b1, bsE1, rfl, hlb1⟩ := len_one hlb0
        obtain ⟨v1, vsE1, rfl, hlv1⟩ := len_one hlv0
        obtain ⟨b2, bsE2, rfl, hlb2⟩ := len_one hlb1
        obtain ⟨v2, vsE2, rfl, hlv2⟩ := len_one hlv1
        obtain ⟨b3, bsE3, rfl, hlb3⟩ := len_one hlb2
        obtain ⟨v3, vsE3, rfl, hlv3⟩ := len_one hlv2
        obtain rfl := len_nil hlb3
        obtain rfl := len_nil hlv3
        obtain rfl : b1 = true := hnd 1 (by simp)
        obtain rfl : b3 = false := hbk
        replace h : TwoI w2 first last b0 true b2 false v0 v1 W := h
        clear hnd
        have HST := Lib.hid h
        obtain ⟨q, eq, hq1, hq2⟩ := h.by_ rfl; subst eq; have t0 := blk_cell (o := 0) hq2 rfl; have t1 := blk_free (o := 0) hq2
        intro K Q hK
        simp only [putE, updAll, Act.put, List.setIfInBounds_toArray, List.set_cons_zero, List.set_cons_succ, List.set_nil] at hK ⊢
        go_wp2_with fail
        all_goals (first | exact hK _ h.swap.put0.swap | exact h.swap.put0.swap)
    case done =>
      intro vsE W hlv h
      obtain ⟨v0, vsE0, rfl, hlv0⟩ := len_one hlv
      obtain ⟨v1, vsE1, rfl, hlv1⟩ := len_one hlv0
      obtain ⟨v2, vsE2, rfl, hlv2⟩ := len_one hlv1
      obtain ⟨v3, vsE3, rfl, hlv3⟩ := len_one hlv2
      obtain rfl := len_nil hlv3
      replace h : TwoI w2 first last true true true true v0 v1 W := h
      have HST := Lib.hid h
      obtain ⟨bf, e1, q1, q2⟩ := h.bx rfl
      subst e1
      obtain ⟨bl, e2, q3, q4⟩ := h.by_ rfl
      subst e2
      have hbl := h.bel
      simp only [putE, updAll, Act.put, List.setIfInBounds_toArray, List.set_cons_zero, List.set_cons_succ, List.set_nil]
      go_wp2_with fail
      go_meet
      exact ⟨bf, bl, rfl, rfl, bStep kW2 hbl, ⟨blk_cell q2 rfl, blk_cell q4 rfl, blk_cell (blk_step BB.out.1 hbl) rfl, blk_cell (blk_step BB.out.1 hbl) rfl, blk_cell (blk_step BB.out.2.1 hbl) rfl, blk_cell (blk_step BB.out.2.1 hbl) rfl⟩, blk_step BB.out.2.2 hbl⟩
  case rest =>
    obtain ⟨bf, bl, rfl, rfl, P0⟩ := hcut
    have HK := Lib.hid P0
    have hb0 := P0.bel
    clear P0 BB d0 d1 l0 g1 g2 lbu kW2
    go_wp2_with (first
      | (go_at_call 55; (with_reducible refine (F1.out bf bl w.heap.size (w.heap.size + 1) _ (HA.out.step (by repeat' (first | exact Below.refl _ _ | assumption | apply bDrewN | apply bDrew | apply bAlloc | (refine bSet ?_ ?_ _) | (refine bStep ?_ (by assumption)) | omega | (simp <;> omega)))) (HB.out.step (by repeat' (first | exact Below.refl _ _ | assumption | apply bDrewN | apply bDrew | apply bAlloc | (refine bSet ?_ ?_ _) | (refine bStep ?_ (by assumption)) | omega | (simp <;> omega)))) HK.out.cap).mono ?_); rintro e w3 ⟨⟨lo, rfl, hlo⟩, hb3⟩; have HK3 := Lib.hid (HK.out.step hb3))
      | (go_at_call 55; (with_reducible refine (F2.out bf bl w.heap.size (w.heap.size + 1) _ (HA.out.step (by repeat' (first | exact Below.refl _ _ | assumption | apply bDrewN | apply bDrew | apply bAlloc | (refine bSet ?_ ?_ _) | (refine bStep ?_ (by assumption)) | omega | (simp <;> omega)))) (HB.out.step (by repeat' (first | exact Below.refl _ _ | assumption | apply bDrewN | apply bDrew | apply bAlloc | (refine bSet ?_ ?_ _) | (refine bStep ?_ (by assumption)) | omega | (simp <;> omega)))) HK3.out.cap).mono ?_); rintro e w4 ⟨⟨ov2, rfl, hov⟩, hb4⟩; have HK4 := Lib.hid (HK3.out.step hb4); obtain ⟨c4, c5, f4, f5, k2⟩ := cv_openS HK4.out.rb; have hl1 := hlo.le; have hl2 := hov.le; have a9 : IntKind.i64.wrap (first + (ov2 : Nat) - 1) = first + (ov2 : Nat) - 1 := Go.IntWalk.i64_in _ ⟨by omega, by omega⟩))
    · exact bodyPost_ret (v := .tuple #[.agg #[.int .i64 0, .int .i64 0], .int .i64 5]) (by simp only [results, Try.results15]; go_simp) rfl ⟨⟨lo, ov2, by unfold backR; rw [if_pos (by omega)], hlo, hov⟩, (by repeat' (first | exact Below.refl _ _ | assumption | apply bDrewN | apply bDrew | apply bAlloc | (refine bSet ?_ ?_ _) | (refine bStep ?_ (by assumption)) | omega | (simp <;> omega)))⟩
    · exact bodyPost_ret (v := .tuple #[.agg #[.int .i64 (first + (lo : Nat)), .int .i64 (first + (ov2 : Nat) - 1)], .int .i64 0]) (by simp only [results, Try.results15]; go_simp) rfl ⟨⟨lo, ov2, by unfold backR; rw [if_neg (by omega)], hlo, hov⟩, (by repeat' (first | exact Below.refl _ _ | assumption | apply bDrewN | apply bDrew | apply bAlloc | (refine bSet ?_ ?_ _) | (refine bStep ?_ (by assumption)) | omega | (simp <;> omega)))⟩

end Go.Proofs.Ytngnehlmbipabaa
