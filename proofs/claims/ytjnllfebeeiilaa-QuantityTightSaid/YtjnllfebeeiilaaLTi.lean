/-
  The walk of the law QuantityTight.
-/
import Derived.Test.YtjnllfebeeiilaaTp
set_option linter.unusedSimpArgs false
set_option linter.unusedVariables false
namespace Go.Proofs.Ytjnllfebeeiilaa
open Go.RowKit

set_option maxHeartbeats 4000000 in
set_option maxRecDepth 20000 in
theorem tight_core (lo ln at1 lo' ln' at2 n d0 : Int) (w : World) (h1 : -32768 ≤ lo) (h2 : lo ≤ 32767) (h3 : -32768 ≤ ln) (h4 : ln ≤ 32767)
    (g1 : -32768 ≤ lo') (g2 : lo' ≤ 32767) (g3 : -32768 ≤ ln') (g4 : ln' ≤ 32767) (x1 : -32768 ≤ n) (x2 : n ≤ 32767) (y1 : 0 ≤ d0) (y2 : d0 ≤ 65535) :
    Calls Try.prog 4 #[.agg #[.int .i16 lo, .int .i16 ln, .int .u16 at1], .agg #[.int .i16 lo', .int .i16 ln', .int .u16 at2], .int .i16 n, .int .u16 d0] w fun e w' => e = .returned (.bool true) ∧ Below w.heap.size w w' := by
  have P := Lib.hid (fun w => span_any lo ln at1 w h1 h2 h3 h4)
  have Q := Lib.hid (fun w => span_any lo' ln' at2 w g1 g2 g3 g4)
  have hp := SmS_of h1 h2 h3 h4
  have hq := SmS_of g1 g2 g3 g4
  have hl := lenOf_bd h3 h4
  have hl' := lenOf_bd g3 g4
  have hD1 : 1 ≤ d0 + 1 := by omega
  have hD2 : d0 + 1 ≤ 131072 := by omega
  have CS := fun w => Scale_any (spanOf lo ln) n (d0 + 1) w
  have CM := fun w => Mul_any (spanOf lo ln) (spanOf lo' ln') (d0 + 1) w
  have CQ := fun w => Square_any (spanOf lo ln) (d0 + 1) w
  have CD := fun w => Div_any (spanOf lo ln) (spanOf lo' ln') n w
  obtain ⟨z1, b1⟩ := scale_best (n := n) hp (by omega) (by omega) hD1 hD2
  obtain ⟨z2, b2⟩ := mul_best hp hq hD1 hD2
  obtain ⟨z3, b3⟩ := square_best hp hD1 hD2
  have hz4 := fun hz => div_zero (n := n) hp hq (by omega) (by omega) hz
  have hb4 := fun hz => div_best (n := n) hp hq (by omega) (by omega) hz
  have hn4 := fun hz => near_div (l := (divS (spanOf lo ln) (spanOf lo' ln') n).1.1) (u := (divS (spanOf lo ln) (spanOf lo' ln') n).1.2) (hb4 hz).2 hp hq x1 x2 hz
  have hc4 := fun hz => (hb4 hz).2.2.2.2
  have z4 := fun hz => (hb4 hz).1
  clear hb4 hp hq
  generalize scaleS (spanOf lo ln) n (d0 + 1) = v1 at *
  generalize mulS (spanOf lo ln) (spanOf lo' ln') (d0 + 1) = v2 at *
  generalize squareS (spanOf lo ln) (d0 + 1) = v3 at *
  generalize divS (spanOf lo ln) (spanOf lo' ln') n = v4 at *
  obtain ⟨⟨l1, u1⟩, e1⟩ := v1
  obtain ⟨⟨l2, u2⟩, e2⟩ := v2
  obtain ⟨⟨l3, u3⟩, e3⟩ := v3
  obtain ⟨⟨l4, u4⟩, e4⟩ := v4
  unfold spanOf at *
  dsimp only at *
  obtain rfl : e1 = 0 := z1
  obtain rfl : e2 = 0 := z2
  obtain rfl : e3 = 0 := z3
  generalize hA : lo + lenOf ln = hi at *
  generalize hB : lo' + lenOf ln' = hi' at *
  have i1 : lo ≤ hi := by omega
  have i2 : hi ≤ 65534 := by omega
  have i3 : lo' ≤ hi' := by omega
  have i4 : hi' ≤ 65534 := by omega
  clear hA hB hl hl'
  obtain ⟨m, hm⟩ : ∃ m, mid0 (lo, hi) = m := ⟨_, rfl⟩
  have hm1 : -131072 ≤ m := by rw [← hm]; unfold mid0; dsimp only; omega
  have hm2 : m ≤ 131072 := by rw [← hm]; unfold mid0; dsimp only; omega
  obtain ⟨pa0, pb0⟩ := mul_bd (x := lo) (n := n) (A := 131072) (B := 131072) (by omega) (by omega) (by omega) (by omega)
  obtain ⟨pa1, pb1⟩ := mul_bd (x := hi) (n := n) (A := 131072) (B := 131072) (by omega) (by omega) (by omega) (by omega)
  obtain ⟨pa2, pb2⟩ := mul_bd (x := lo) (n := lo') (A := 131072) (B := 131072) (by omega) (by omega) (by omega) (by omega)
  obtain ⟨pa3, pb3⟩ := mul_bd (x := lo) (n := hi') (A := 131072) (B := 131072) (by omega) (by omega) (by omega) (by omega)
  obtain ⟨pa4, pb4⟩ := mul_bd (x := hi) (n := lo') (A := 131072) (B := 131072) (by omega) (by omega) (by omega) (by omega)
  obtain ⟨pa5, pb5⟩ := mul_bd (x := hi) (n := hi') (A := 131072) (B := 131072) (by omega) (by omega) (by omega) (by omega)
  obtain ⟨pa6, pb6⟩ := mul_bd (x := lo) (n := lo) (A := 131072) (B := 131072) (by omega) (by omega) (by omega) (by omega)
  obtain ⟨pa7, pb7⟩ := mul_bd (x := hi) (n := hi) (A := 131072) (B := 131072) (by omega) (by omega) (by omega) (by omega)
  obtain ⟨pa8, pb8⟩ := mul_bd (x := m) (n := m) (A := 131072) (B := 131072) (by omega) (by omega) (by omega) (by omega)
  rw [hm] at b3
  have c1 := b1.2.2.2
  have c2 := b2.2.2.2
  have c3 := b3.2.2.2
  have N1 := Lib.hid (fun X T r1 r2 hr1 hr => near_two X l1 u1 _ _ _ _ T c1.1 c1.2.1 c1.2.2 (near2 b1 hD1 hD2 (by omega) (by omega) (by omega) (by omega)) r1 r2 hr1 hr)
  have N2 := Lib.hid (fun X T r1 r2 hr1 hr => near_four X l2 u2 _ _ _ _ _ _ _ _ T c2.1 c2.2.1 c2.2.2 (near4 b2 hD1 hD2 (by omega) (by omega) (by omega) (by omega) (by omega) (by omega) (by omega) (by omega)) r1 r2 hr1 hr)
  have N3 := Lib.hid (fun X T r1 r2 hr1 hr => near_three X l3 u3 _ _ _ _ _ _ T c3.1 c3.2.1 c3.2.2 (near3 b3 hD1 hD2 (by omega) (by omega) (by omega) (by omega) (by omega) (by omega)) r1 r2 hr1 hr)
  have N4 := Lib.hid (fun hz => fun X T r1 r2 hr1 hr => near_four X l4 u4 _ _ _ _ _ _ _ _ T (hc4 hz).1 (hc4 hz).2.1 (hc4 hz).2.2 (hn4 hz) r1 r2 hr1 hr)
  have D4 : Hid (((lo' ≤ 0 ∧ 0 ≤ hi') ∧ l4 = 0 ∧ u4 = 0 ∧ e4 = 9) ∨ (¬ (lo' ≤ 0 ∧ 0 ≤ hi') ∧ e4 = 0)) := by
    by_cases hz : lo' ≤ 0 ∧ 0 ≤ hi'
    · have q := hz4 hz
      simp only [Prod.mk.injEq] at q
      exact Or.inl ⟨hz, q.1.1, q.1.2, q.2⟩
    · exact Or.inr ⟨hz, z4 hz⟩
  obtain ⟨M, hM⟩ : ∃ M, max lo 0 = M := ⟨_, rfl⟩
  have q1 : (if lo < 0 then 0 else lo) = M := by rw [← hM, max_if]
  have q2 : (if hi < M then hi else M) = m := by rw [← hm]; unfold mid0; dsimp only; rw [hM, min_if]
  clear b1 b2 b3 hc4 z4 hz4 hn4 hD1 hD2 c1 c2 c3 hM hm
  have CS := Lib.hid CS
  have CM := Lib.hid CM
  have CQ := Lib.hid CQ
  have CD := Lib.hid CD
  go_enter Try.func4, Try.ntmps4
  go_wp2
  have hS : SmBox w (.int .i16 lo) (.int .i16 ln) (.int .u16 at1) (.int .i16 lo') (.int .i16 ln') (.int .u16 at2) ((w.alloc (Obj.cells #[.int .i16 lo, .int .i16 ln, .int .u16 at1] 25)).alloc (Obj.cells #[.int .i16 lo', .int .i16 ln', .int .u16 at2] 25)) := by
    refine ⟨?_, ?_, ?_, ?_, ?_, ?_, (by repeat' (first | exact Below.refl _ _ | assumption | apply bDrewN | apply bDrew | apply bAlloc | (refine bSet ?_ ?_ _) | (refine bStep ?_ (by assumption)) | omega | (simp <;> omega)))⟩ <;> go_simp
  have HS := Lib.hid hS
  clear hS
  go_cut [9, 10] (fun s7 s8 W => ∃ p q : Nat, s7 = .pointer (some ⟨p, 0, none⟩) ∧ s8 = .pointer (some ⟨q, 0, none⟩) ∧ W.cell? ⟨p, 0, none⟩ = some (.int .i64 lo) ∧ W.cell? ⟨p, 1, none⟩ = some (.int .i64 hi) ∧ W.cell? ⟨q, 0, none⟩ = some (.int .i64 lo') ∧ W.cell? ⟨q, 1, none⟩ = some (.int .i64 hi') ∧
    SmBox w (.int .i16 lo) (.int .i16 ln) (.int .u16 at1) (.int .i16 lo') (.int .i16 ln') (.int .u16 at2) W)
  case first =>
    generalize hA0 : (Act.mk _ _) = A0
    refine region_inv (by kernel_rfl) (by kernel_rfl) (fun l a W => ∃ (b0 b1 b2 b3 b4 b5 b6 b7 : Bool) (v16 v17 v18 v19 v9 v10 : Value), l = #[b0, b1, b2, b3, b4, b5, b6, b7] ∧ a = updAll A0 [(16, v16), (17, v17), (18, v18), (19, v19), (9, v9), (10, v10)] ∧ (b0 = true → v16 = (.agg #[.int .i16 lo, .int .i16 ln, .int .u16 at1])) ∧ (b1 = true → v17 = (.agg #[.int .i64 lo, .int .i64 hi])) ∧ (b2 = true → v18 = (.agg #[.int .i16 lo', .int .i16 ln', .int .u16 at2])) ∧ (b3 = true → v19 = (.agg #[.int .i64 lo', .int .i64 hi'])) ∧ (b4 = false → b6 = false) ∧ (b5 = false → b7 = false) ∧ SmBox w (.int .i16 lo) (.int .i16 ln) (.int .u16 at1) (.int .i16 lo') (.int .i16 ln') (.int .u16 at2) W ∧ w.heap.size + 2 ≤ W.heap.size ∧ BoxF b4 b6 v9 (w.heap.size + 2) #[.int .i64 0, .int .i64 0] #[.int .i64 lo, .int .i64 hi] 27 W ∧ BoxF b5 b7 v10 (w.heap.size + 2) #[.int .i64 0, .int .i64 0] #[.int .i64 lo', .int .i64 hi'] 27 W ∧ Apart b4 b5 v9 v10) ?h0 ?hsz ?step ?done
    case h0 =>
      refine ⟨false, false, false, false, false, false, false, false, A0.tmps.getD 16 undef, A0.tmps.getD 17 undef, A0.tmps.getD 18 undef, A0.tmps.getD 19 undef, A0.tmps.getD 9 undef, A0.tmps.getD 10 undef, by rfl, ?_, by simp, by simp, by simp, by simp, by simp, by simp, HS.out.drew, by simp, BoxF.no, BoxF.no, Apart.no⟩
      rw [← hA0]
      simp [updAll, Act.put]
    case hsz =>
      rintro l a W ⟨b0, b1, b2, b3, b4, b5, b6, b7, v16, v17, v18, v19, v9, v10, rfl, -⟩
      rfl
    case step =>
      intro iop oop hopi lst act W hInv hlst hdep
      obtain ⟨b0, b1, b2, b3, b4, b5, b6, b7, v16, v17, v18, v19, v9, v10, rfl, rfl, f0, f1, f2, f3, g4, g5, hM, hz, x4, x5, y4_5⟩ := hInv
      have hi8 : iop < 8 := (Array.getElem?_eq_some_iff.1 hopi).1
      have hi9 : iop = 0 ∨ iop = 1 ∨ iop = 2 ∨ iop = 3 ∨ iop = 4 ∨ iop = 5 ∨ iop = 6 ∨ iop = 7 := by omega
      rcases hi9 with rfl | rfl | rfl | rfl | rfl | rfl | rfl | rfl
      · obtain rfl : b0 = false := by simpa using hlst
        obtain rfl := Option.some.inj (show some _ = some oop from hopi)
        refine step_to (a' := (updAll A0 [(16, v16), (17, v17), (18, v18), (19, v19), (9, v9), (10, v10)]).put (some 16) ((.agg #[.int .i16 lo, .int .i16 ln, .int .u16 at1]))) (w' := W) ?_ ?_
        · intro K' hK'
          subst hA0
          obtain ⟨c1, c2, c3, c4, c5, c6, cB⟩ := id hM
          refine wpOp_plain rfl rfl ?_
          simp only [updAll, Act.put, List.setIfInBounds_toArray, List.set_cons_zero, List.set_cons_succ] at hK' ⊢
          go_wp2
          exact hK'
        · refine ⟨true, b1, b2, b3, b4, b5, b6, b7, _, v17, v18, v19, v9, v10, by rfl, ?_, fun _ => rfl, f1, f2, f3, g4, g5, hM, hz, x4, x5, y4_5⟩
          rw [← hA0]
          simp [updAll, Act.put]
      · obtain rfl : b1 = false := by simpa using hlst
        obtain rfl := Option.some.inj (show some _ = some oop from hopi)
        obtain rfl : b0 = true := by
          rcases Bool.eq_false_or_eq_true b0 with hbb | hbb
          · exact hbb
          · exfalso; subst hbb; revert hdep; simp [Region.binds]
        have e0 := f0 rfl
        subst e0
        refine step_ex (fun a' w' => a' = (updAll A0 [(16, (.agg #[.int .i16 lo, .int .i16 ln, .int .u16 at1])), (17, v17), (18, v18), (19, v19), (9, v9), (10, v10)]).put (some 17) ((.agg #[.int .i64 lo, .int .i64 hi])) ∧ Below W.heap.size W w') ?_ ?_
        · intro K' hK'
          subst hA0
          obtain ⟨c1, c2, c3, c4, c5, c6, cB⟩ := id hM
          refine wpOp_plain rfl rfl ?_
          simp only [updAll, Act.put, List.setIfInBounds_toArray, List.set_cons_zero, List.set_cons_succ] at hK' ⊢
          go_wp2_with (go_at_call 13; refine (P.out _).mono ?_; rintro e w1 ⟨rfl, hb1⟩)
          all_goals (first | exact ⟨rfl, hb1⟩ | exact hK' _ _ ⟨rfl, hb1⟩)
        · rintro a' w' ⟨rfl, hb1⟩
          refine ⟨true, true, b2, b3, b4, b5, b6, b7, (.agg #[.int .i16 lo, .int .i16 ln, .int .u16 at1]), _, v18, v19, v9, v10, by rfl, ?_, fun _ => rfl, fun _ => rfl, f2, f3, g4, g5, hM.step hb1, Nat.le_trans hz hb1.size, x4.step hb1, x5.step hb1, y4_5⟩
          rw [← hA0]
          simp [updAll, Act.put]
      · obtain rfl : b2 = false := by simpa using hlst
        obtain rfl := Option.some.inj (show some _ = some oop from hopi)
        refine step_to (a' := (updAll A0 [(16, v16), (17, v17), (18, v18), (19, v19), (9, v9), (10, v10)]).put (some 18) ((.agg #[.int .i16 lo', .int .i16 ln', .int .u16 at2]))) (w' := W) ?_ ?_
        · intro K' hK'
          subst hA0
          obtain ⟨c1, c2, c3, c4, c5, c6, cB⟩ := id hM
          refine wpOp_plain rfl rfl ?_
          simp only [updAll, Act.put, List.setIfInBounds_toArray, List.set_cons_zero, List.set_cons_succ] at hK' ⊢
          go_wp2
          exact hK'
        · refine ⟨b0, b1, true, b3, b4, b5, b6, b7, v16, v17, _, v19, v9, v10, by rfl, ?_, f0, f1, fun _ => rfl, f3, g4, g5, hM, hz, x4, x5, y4_5⟩
          rw [← hA0]
          simp [updAll, Act.put]
      · obtain rfl : b3 = false := by simpa using hlst
        obtain rfl := Option.some.inj (show some _ = some oop from hopi)
        obtain rfl : b2 = true := by
          rcases Bool.eq_false_or_eq_true b2 with hbb | hbb
          · exact hbb
          · exfalso; subst hbb; revert hdep; simp [Region.binds]
        have e2 := f2 rfl
        subst e2
        refine step_ex (fun a' w' => a' = (updAll A0 [(16, v16), (17, v17), (18, (.agg #[.int .i16 lo', .int .i16 ln', .int .u16 at2])), (19, v19), (9, v9), (10, v10)]).put (some 19) ((.agg #[.int .i64 lo', .int .i64 hi'])) ∧ Below W.heap.size W w') ?_ ?_
        · intro K' hK'
          subst hA0
          obtain ⟨c1, c2, c3, c4, c5, c6, cB⟩ := id hM
          refine wpOp_plain rfl rfl ?_
          simp only [updAll, Act.put, List.setIfInBounds_toArray, List.set_cons_zero, List.set_cons_succ] at hK' ⊢
          go_wp2_with (go_at_call 13; refine (Q.out _).mono ?_; rintro e w1 ⟨rfl, hb1⟩)
          all_goals (first | exact ⟨rfl, hb1⟩ | exact hK' _ _ ⟨rfl, hb1⟩)
        · rintro a' w' ⟨rfl, hb1⟩
          refine ⟨b0, b1, true, true, b4, b5, b6, b7, v16, v17, (.agg #[.int .i16 lo', .int .i16 ln', .int .u16 at2]), _, v9, v10, by rfl, ?_, f0, f1, fun _ => rfl, fun _ => rfl, g4, g5, hM.step hb1, Nat.le_trans hz hb1.size, x4.step hb1, x5.step hb1, y4_5⟩
          rw [← hA0]
          simp [updAll, Act.put]
      · obtain rfl : b4 = false := by simpa using hlst
        obtain rfl := Option.some.inj (show some _ = some oop from hopi)
        have e_st := g4 rfl
        subst e_st
        refine step_to (a' := (updAll A0 [(16, v16), (17, v17), (18, v18), (19, v19), (9, v9), (10, v10)]).put (some 9) (.pointer (some ⟨W.heap.size, 0, none⟩))) (w' := W.alloc (.cells #[.int .i64 0, .int .i64 0] 27)) ?_ ?_
        · intro K' hK'
          subst hA0
          refine wpOp_plain rfl rfl ?_
          simp only [updAll, Act.put, List.setIfInBounds_toArray, List.set_cons_zero, List.set_cons_succ] at hK' ⊢
          go_wp2
          exact hK'
        · refine ⟨b0, b1, b2, b3, true, b5, false, b7, v16, v17, v18, v19, _, v10, by rfl, ?_, f0, f1, f2, f3, by simp, g5, hM.alloc, (by first | omega | (simp; omega) | simp), BoxF.new hz, x5.step ((Below.refl _ _).alloc (Nat.le_refl _) _), Apart.new x5⟩
          rw [← hA0]
          simp [updAll, Act.put]
      · obtain rfl : b5 = false := by simpa using hlst
        obtain rfl := Option.some.inj (show some _ = some oop from hopi)
        have e_st := g5 rfl
        subst e_st
        refine step_to (a' := (updAll A0 [(16, v16), (17, v17), (18, v18), (19, v19), (9, v9), (10, v10)]).put (some 10) (.pointer (some ⟨W.heap.size, 0, none⟩))) (w' := W.alloc (.cells #[.int .i64 0, .int .i64 0] 27)) ?_ ?_
        · intro K' hK'
          subst hA0
          refine wpOp_plain rfl rfl ?_
          simp only [updAll, Act.put, List.setIfInBounds_toArray, List.set_cons_zero, List.set_cons_succ] at hK' ⊢
          go_wp2
          exact hK'
        · refine ⟨b0, b1, b2, b3, b4, true, b6, false, v16, v17, v18, v19, v9, _, by rfl, ?_, f0, f1, f2, f3, g4, by simp, hM.alloc, (by first | omega | (simp; omega) | simp), x4.step ((Below.refl _ _).alloc (Nat.le_refl _) _), BoxF.new hz, (Apart.new x4).symm⟩
          rw [← hA0]
          simp [updAll, Act.put]
      · obtain rfl : b6 = false := by simpa using hlst
        obtain rfl := Option.some.inj (show some _ = some oop from hopi)
        obtain rfl : b4 = true := by
          rcases Bool.eq_false_or_eq_true b4 with hbb | hbb
          · exact hbb
          · exfalso; subst hbb; revert hdep; simp [Region.binds]
        obtain rfl : b1 = true := by
          rcases Bool.eq_false_or_eq_true b1 with hbb | hbb
          · exact hbb
          · exfalso; subst hbb; revert hdep; simp [Region.binds]
        have e1 := f1 rfl
        subst e1
        obtain ⟨r, hr1, hr2, hr3⟩ := x4 rfl
        subst hr1
        simp only [Bool.false_eq_true, if_false] at hr3
        refine step_to (a' := updAll A0 [(16, v16), (17, (.agg #[.int .i64 lo, .int .i64 hi])), (18, v18), (19, v19), (9, (.pointer (some ⟨r, 0, none⟩))), (10, v10)]) (w' := ((W.setCell ⟨r, 0, none⟩ (.int .i64 lo)).setCell ⟨r, 1, none⟩ (.int .i64 hi))) ?_ ?_
        · intro K' hK'
          subst hA0
          have q0 := blk_cell (o := 0) hr3 rfl
          have p0 := blk_free (o := 0) hr3
          have q1 := blk_cell (o := 1) hr3 rfl
          have p1 := blk_free (o := 1) hr3
          refine wpOp_plain rfl rfl ?_
          simp only [updAll, Act.put, List.setIfInBounds_toArray, List.set_cons_zero, List.set_cons_succ] at hK' ⊢
          go_wp2
          exact hK'
        · exact ⟨b0, true, b2, b3, true, b5, true, b7, v16, (.agg #[.int .i64 lo, .int .i64 hi]), v18, v19, (.pointer (some ⟨r, 0, none⟩)), v10, by rfl, rfl, f0, fun _ => rfl, f2, f3, by simp, g5, ((hM.set (by omega)).set (by omega)), by simpa using hz, fun _ => ⟨r, rfl, hr2, (blk_set (blk_set hr3))⟩, ((x5.setFar (fun e => (y4_5.symm e rfl)) _ _).setFar (fun e => (y4_5.symm e rfl)) _ _), y4_5⟩
      · obtain rfl : b7 = false := by simpa using hlst
        obtain rfl := Option.some.inj (show some _ = some oop from hopi)
        obtain rfl : b5 = true := by
          rcases Bool.eq_false_or_eq_true b5 with hbb | hbb
          · exact hbb
          · exfalso; subst hbb; revert hdep; simp [Region.binds]
        obtain rfl : b3 = true := by
          rcases Bool.eq_false_or_eq_true b3 with hbb | hbb
          · exact hbb
          · exfalso; subst hbb; revert hdep; simp [Region.binds]
        have e3 := f3 rfl
        subst e3
        obtain ⟨r, hr1, hr2, hr3⟩ := x5 rfl
        subst hr1
        simp only [Bool.false_eq_true, if_false] at hr3
        refine step_to (a' := updAll A0 [(16, v16), (17, v17), (18, v18), (19, (.agg #[.int .i64 lo', .int .i64 hi'])), (9, v9), (10, (.pointer (some ⟨r, 0, none⟩)))]) (w' := ((W.setCell ⟨r, 0, none⟩ (.int .i64 lo')).setCell ⟨r, 1, none⟩ (.int .i64 hi'))) ?_ ?_
        · intro K' hK'
          subst hA0
          have q0 := blk_cell (o := 0) hr3 rfl
          have p0 := blk_free (o := 0) hr3
          have q1 := blk_cell (o := 1) hr3 rfl
          have p1 := blk_free (o := 1) hr3
          refine wpOp_plain rfl rfl ?_
          simp only [updAll, Act.put, List.setIfInBounds_toArray, List.set_cons_zero, List.set_cons_succ] at hK' ⊢
          go_wp2
          exact hK'
        · exact ⟨b0, b1, b2, true, b4, true, b6, true, v16, v17, v18, (.agg #[.int .i64 lo', .int .i64 hi']), v9, (.pointer (some ⟨r, 0, none⟩)), by rfl, rfl, f0, f1, f2, fun _ => rfl, g4, by simp, ((hM.set (by omega)).set (by omega)), by simpa using hz, ((x4.setFar (fun e => y4_5 e rfl) _ _).setFar (fun e => y4_5 e rfl) _ _), fun _ => ⟨r, rfl, hr2, (blk_set (blk_set hr3))⟩, y4_5⟩
    case done =>
      rintro l a W ⟨b0, b1, b2, b3, b4, b5, b6, b7, v16, v17, v18, v19, v9, v10, rfl, rfl, f0, f1, f2, f3, g4, g5, hM, hz, x4, x5, y4_5⟩ hall
      obtain rfl : b0 = true := by simpa using hall 0 (by decide)
      obtain rfl : b1 = true := by simpa using hall 1 (by decide)
      obtain rfl : b2 = true := by simpa using hall 2 (by decide)
      obtain rfl : b3 = true := by simpa using hall 3 (by decide)
      obtain rfl : b4 = true := by simpa using hall 4 (by decide)
      obtain rfl : b5 = true := by simpa using hall 5 (by decide)
      obtain rfl : b6 = true := by simpa using hall 6 (by decide)
      obtain rfl : b7 = true := by simpa using hall 7 (by decide)
      have e0 := f0 rfl
      subst e0
      have e1 := f1 rfl
      subst e1
      have e2 := f2 rfl
      subst e2
      have e3 := f3 rfl
      subst e3
      obtain ⟨r4, e4, k4, m4⟩ := x4 rfl
      subst e4
      simp only [if_true] at m4
      obtain ⟨r5, e5, k5, m5⟩ := x5 rfl
      subst e5
      simp only [if_true] at m5
      subst hA0
      simp only [updAll, Act.put, List.setIfInBounds_toArray, List.set_cons_zero, List.set_cons_succ]
      go_wp2_with fail
      go_meet
      exact ⟨r4, r5, rfl, rfl, blk_cell m4 rfl, blk_cell m4 rfl, blk_cell m5 rfl, blk_cell m5 rfl, hM⟩
  case rest =>
    obtain ⟨p, q, rfl, rfl, d1, d2, d3, d4, hM⟩ := hcut
    obtain ⟨-, -, -, -, -, -, kB⟩ := hM
    have HT1 := Lib.hid (show Two p lo hi wc from ⟨d1, d2⟩)
    have HT2 := Lib.hid (show Two q lo' hi' wc from ⟨d3, d4⟩)
    clear HS P Q
    go_upto_region 4 with (go_at_call 19; refine (CM.out _).mono ?_; rintro e w5 ⟨rfl, hb5⟩; have k1 := cell_step d1 hb5; have k3 := cell_step d3 hb5; have hlp := cell_lt k1; have hlq := cell_lt k3)
    have hsz5 := hb5.size
    have hsz := kB.size
    have hSt : TiSt w p q w5.heap.size (lo, hi) (lo', hi') (l2, u2) (w5.alloc (Obj.cells #[.int .i64 l2, .int .i64 u2] 27)) :=
      ⟨(HT1.out.step hb5).step bAl, (HT2.out.step hb5).step bAl, Fre.new, (by repeat' (first | exact Below.refl _ _ | assumption | apply bDrewN | apply bDrew | apply bAlloc | (refine bSet ?_ ?_ _) | (refine bStep ?_ (by assumption)) | omega | (simp <;> omega))), hlp, hlq, by omega⟩
    generalize w5.alloc (Obj.cells #[Value.int IntKind.i64 l2, Value.int IntKind.i64 u2] 27) = W0 at *
    clear hb5 k1 k3 hlp hlq d1 d2 d3 d4 kB hsz5 hsz HT1 HT2 CM
    generalize w5.heap.size = s at *
    obtain ⟨⟨c1, c2⟩, ⟨c3, c4⟩, ⟨c5, c6, c7, c8⟩, kB, o1, o2, o3⟩ := id hSt
    have n1 : p ≠ s := by omega
    have n2 : q ≠ s := by omega
    clear o1 o2
    have HSt := Lib.hid hSt
    clear hSt
    rcases D4.out with ⟨⟨z1, z2⟩, rfl, rfl, rfl⟩ | ⟨hz, rfl⟩
    all_goals clear D4
    · go_wp2_with (first | (go_at_call 20; (with_reducible_and_instances refine (N2.out _ _ _ _ (by simp) (by simp)).mono ?_); rintro e w7 ⟨rfl, hb7⟩; have hN := ((HSt.out.step bAl).step bAl).step hb7; clear c1 c2 c3 c4 c5 c6 c7 c8 kB HSt; obtain ⟨⟨c1, c2⟩, ⟨c3, c4⟩, ⟨c5, c6, c7, c8⟩, kB, -⟩ := id hN; have HSt := Lib.hid hN; clear hN) | (go_at_call 21; (with_reducible refine (CS.out _).mono ?_); rintro e w8 ⟨rfl, hb8⟩; have hN := HSt.out.step hb8; clear c1 c2 c3 c4 c5 c6 c7 c8 kB HSt; obtain ⟨⟨c1, c2⟩, ⟨c3, c4⟩, ⟨c5, c6, c7, c8⟩, kB, -⟩ := id hN; have HSt := Lib.hid hN; clear hN) | (go_at_call 20; (with_reducible_and_instances refine (N1.out _ _ _ _ (by simp) (by simp)).mono ?_); rintro e w9 ⟨rfl, hb9⟩; have hN := (((HSt.out.setS _ _).step bAl).step bAl).step hb9; clear c1 c2 c3 c4 c5 c6 c7 c8 kB HSt; obtain ⟨⟨c1, c2⟩, ⟨c3, c4⟩, ⟨c5, c6, c7, c8⟩, kB, -⟩ := id hN; have HSt := Lib.hid hN; clear hN) | (go_at_call 22; (with_reducible refine (CQ.out _).mono ?_); rintro e w10 ⟨rfl, hb10⟩; have hN := HSt.out.step hb10; clear c1 c2 c3 c4 c5 c6 c7 c8 kB HSt; obtain ⟨⟨c1, c2⟩, ⟨c3, c4⟩, ⟨c5, c6, c7, c8⟩, kB, -⟩ := id hN; have HSt := Lib.hid hN; clear hN) | (go_at_call 20; (with_reducible_and_instances refine (N3.out _ _ _ _ (by simp) (by simp)).mono ?_); rintro e w11 ⟨rfl, hb11⟩; have hN := (((HSt.out.setS _ _).step bAl).step bAl).step hb11; clear c1 c2 c3 c4 c5 c6 c7 c8 kB HSt; obtain ⟨⟨c1, c2⟩, ⟨c3, c4⟩, ⟨c5, c6, c7, c8⟩, kB, -⟩ := id hN; have HSt := Lib.hid hN; clear hN) | (go_at_call 23; (with_reducible refine (CD.out _).mono ?_); rintro e w12 ⟨rfl, hb12⟩; have hN := HSt.out.step hb12; clear c1 c2 c3 c4 c5 c6 c7 c8 kB HSt; obtain ⟨⟨c1, c2⟩, ⟨c3, c4⟩, ⟨c5, c6, c7, c8⟩, kB, -⟩ := id hN; have HSt := Lib.hid hN; clear hN; have hlq := cell_lt c3) | (go_at_call 18; refine (works_any _).mono ?_; rintro e w19 ⟨rfl, hb19⟩))
      go_ret
      exact ⟨rfl, (by repeat' (first | exact Below.refl _ _ | assumption | apply bDrewN | apply bDrew | apply bAlloc | (refine bSet ?_ ?_ _) | (refine bStep ?_ (by assumption)) | omega | (simp <;> omega)))⟩
    · have N4 := Lib.hid (N4.out hz)
      have hz' : 0 < lo' ∨ (lo' ≤ 0 ∧ hi' < 0) := by omega
      clear hz
      rcases hz' with hz | ⟨hz, hz2⟩
      all_goals
        go_wp2_with (first | (go_at_call 20; (with_reducible_and_instances refine (N2.out _ _ _ _ (by simp) (by simp)).mono ?_); rintro e w7 ⟨rfl, hb7⟩; have hN := ((HSt.out.step bAl).step bAl).step hb7; clear c1 c2 c3 c4 c5 c6 c7 c8 kB HSt; obtain ⟨⟨c1, c2⟩, ⟨c3, c4⟩, ⟨c5, c6, c7, c8⟩, kB, -⟩ := id hN; have HSt := Lib.hid hN; clear hN) | (go_at_call 21; (with_reducible refine (CS.out _).mono ?_); rintro e w8 ⟨rfl, hb8⟩; have hN := HSt.out.step hb8; clear c1 c2 c3 c4 c5 c6 c7 c8 kB HSt; obtain ⟨⟨c1, c2⟩, ⟨c3, c4⟩, ⟨c5, c6, c7, c8⟩, kB, -⟩ := id hN; have HSt := Lib.hid hN; clear hN) | (go_at_call 20; (with_reducible_and_instances refine (N1.out _ _ _ _ (by simp) (by simp)).mono ?_); rintro e w9 ⟨rfl, hb9⟩; have hN := (((HSt.out.setS _ _).step bAl).step bAl).step hb9; clear c1 c2 c3 c4 c5 c6 c7 c8 kB HSt; obtain ⟨⟨c1, c2⟩, ⟨c3, c4⟩, ⟨c5, c6, c7, c8⟩, kB, -⟩ := id hN; have HSt := Lib.hid hN; clear hN) | (go_at_call 22; (with_reducible refine (CQ.out _).mono ?_); rintro e w10 ⟨rfl, hb10⟩; have hN := HSt.out.step hb10; clear c1 c2 c3 c4 c5 c6 c7 c8 kB HSt; obtain ⟨⟨c1, c2⟩, ⟨c3, c4⟩, ⟨c5, c6, c7, c8⟩, kB, -⟩ := id hN; have HSt := Lib.hid hN; clear hN) | (go_at_call 20; (with_reducible_and_instances refine (N3.out _ _ _ _ (by simp) (by simp)).mono ?_); rintro e w11 ⟨rfl, hb11⟩; have hN := (((HSt.out.setS _ _).step bAl).step bAl).step hb11; clear c1 c2 c3 c4 c5 c6 c7 c8 kB HSt; obtain ⟨⟨c1, c2⟩, ⟨c3, c4⟩, ⟨c5, c6, c7, c8⟩, kB, -⟩ := id hN; have HSt := Lib.hid hN; clear hN) | (go_at_call 23; (with_reducible refine (CD.out _).mono ?_); rintro e w12 ⟨rfl, hb12⟩; have hN := HSt.out.step hb12; clear c1 c2 c3 c4 c5 c6 c7 c8 kB HSt; obtain ⟨⟨c1, c2⟩, ⟨c3, c4⟩, ⟨c5, c6, c7, c8⟩, kB, -⟩ := id hN; have HSt := Lib.hid hN; clear hN; have hlq := cell_lt c3) | (go_at_call 20; (with_reducible_and_instances refine (N4.out _ _ _ _ (by simp) (by simp)).mono ?_); rintro e w18 ⟨rfl, hb18⟩; have hN := (((HSt.out.setS _ _).step bAl).step bAl).step hb18; clear c1 c2 c3 c4 c5 c6 c7 c8 kB HSt; obtain ⟨⟨c1, c2⟩, ⟨c3, c4⟩, ⟨c5, c6, c7, c8⟩, kB, -⟩ := id hN; have HSt := Lib.hid hN; clear hN) | (go_at_call 18; refine (works_any _).mono ?_; rintro e w19 ⟨rfl, hb19⟩))
        go_ret
        exact ⟨rfl, (by repeat' (first | exact Below.refl _ _ | assumption | apply bDrewN | apply bDrew | apply bAlloc | (refine bSet ?_ ?_ _) | (refine bStep ?_ (by assumption)) | omega | (simp <;> omega)))⟩

end Go.Proofs.Ytjnllfebeeiilaa
