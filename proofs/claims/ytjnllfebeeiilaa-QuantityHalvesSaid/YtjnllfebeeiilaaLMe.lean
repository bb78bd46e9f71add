/-
  The walk of the law QuantityMeets.
-/
import Derived.Test.YtjnllfebeeiilaaWk
import Derived.Test.YtjnllfebeeiilaaSb
import Derived.Test.YtjnllfebeeiilaaInv2
set_option linter.unusedSimpArgs false
set_option linter.unusedVariables false
namespace Go.Proofs.Ytjnllfebeeiilaa
open Go.RowKit

theorem spanOf_ok {lo len : Int} (h1 : -32768 ≤ lo) (h2 : lo ≤ 32767) (h3 : -32768 ≤ len) (h4 : len ≤ 32767) : okS (spanOf lo len) = true := by
  have h := lenOf_bd h3 h4
  exact okS_mk (by omega) (by omega) (by omega)

theorem okS_num {a : Int × Int} : okS a = true ↔ (-1099511627776 ≤ a.1 ∧ a.2 ≤ 1099511627776 ∧ a.1 ≤ a.2) := by
  constructor
  · intro h
    have := okS_bd h
    omega
  · intro h; exact okS_mk (by omega) (by omega) (by omega)
theorem meet_law {a b : Int × Int} (ha : okS a = true) (hb : okS b = true) :
    (((meetS a b).2 = 0 ∧ ∀ n, hasS (meetS a b).1 n = (decide (a.1 ≤ n) && decide (n ≤ a.2) && (decide (b.1 ≤ n) && decide (n ≤ b.2)))) ∨ ((meetS a b).2 = 5 ∧ ∀ n, (decide (a.1 ≤ n) && decide (n ≤ a.2) && (decide (b.1 ≤ n) && decide (n ≤ b.2))) = false)) := by
  have h : (okS a && okS b) = true := by rw [ha, hb]; rfl
  rw [okS_num] at ha hb
  by_cases h2 : min a.2 b.2 < max a.1 b.1
  · right
    rw [meetS_none h h2]
    refine ⟨rfl, fun n => ?_⟩
    rw [Bool.eq_false_iff]
    simp only [ne_eq, Bool.and_eq_true, decide_eq_true_eq]
    omega
  · left
    rw [meetS_yes h h2]
    refine ⟨rfl, fun n => ?_⟩
    have hk : okS (max a.1 b.1, min a.2 b.2) = true := okS_num.2 (by simp only; omega)
    unfold hasS
    rw [hk, Bool.eq_iff_iff]
    simp only [Bool.true_and, Bool.and_eq_true, decide_eq_true_eq]
    omega
theorem hull_law {a b : Int × Int} (ha : okS a = true) (hb : okS b = true) :
    (hullS a b).2 = 0 ∧ ∀ n, (decide (a.1 ≤ n) && decide (n ≤ a.2) || (decide (b.1 ≤ n) && decide (n ≤ b.2))) = true → hasS (hullS a b).1 n = true := by
  have h : (okS a && okS b) = true := by rw [ha, hb]; rfl
  rw [okS_num] at ha hb
  rw [hullS_yes h]
  refine ⟨rfl, fun n hn => ?_⟩
  have hk : okS (min a.1 b.1, max a.2 b.2) = true := okS_num.2 (by simp only; omega)
  unfold hasS
  rw [hk]
  simp only [Bool.true_and, Bool.and_eq_true, Bool.or_eq_true, decide_eq_true_eq] at hn ⊢
  omega

/-- A span's box. -/
def Two (p : Nat) (lo hi : Int) (W : World) : Prop := W.cell? ⟨p, 0, none⟩ = some (.int .i64 lo) ∧ W.cell? ⟨p, 1, none⟩ = some (.int .i64 hi)
theorem Two.step {p : Nat} {lo hi : Int} {W W2 : World} (h : Two p lo hi W) (hb : Below W.heap.size W W2) : Two p lo hi W2 := ⟨cell_step h.1 hb, cell_step h.2 hb⟩
theorem bAl {W : World} {o : Obj} : Below W.heap.size W (W.alloc o) := (Below.refl _ _).alloc (Nat.le_refl _) _
theorem Two.new {W : World} {x y : Int} {T : TypeId} : Two W.heap.size x y (W.alloc (.cells #[.int .i64 x, .int .i64 y] T)) := ⟨by go_simp, by go_simp⟩
def MeSt (w : World) (v0 v1 v2 u0 u1 u2 : Value) (p q m h : Nat) (a b c d : Int × Int) (W : World) : Prop :=
  W.cell? ⟨w.heap.size, 0, none⟩ = some (v0) ∧ W.cell? ⟨w.heap.size, 1, none⟩ = some (v1) ∧ W.cell? ⟨w.heap.size, 2, none⟩ = some (v2) ∧ W.cell? ⟨w.heap.size + 1, 0, none⟩ = some (u0) ∧ W.cell? ⟨w.heap.size + 1, 1, none⟩ = some (u1) ∧ W.cell? ⟨w.heap.size + 1, 2, none⟩ = some (u2) ∧ W.cell? ⟨p, 0, none⟩ = some (.int .i64 a.1) ∧ W.cell? ⟨p, 1, none⟩ = some (.int .i64 a.2) ∧ W.cell? ⟨q, 0, none⟩ = some (.int .i64 b.1) ∧ W.cell? ⟨q, 1, none⟩ = some (.int .i64 b.2) ∧ W.cell? ⟨m, 0, none⟩ = some (.int .i64 c.1) ∧ W.cell? ⟨m, 1, none⟩ = some (.int .i64 c.2) ∧ W.cell? ⟨h, 0, none⟩ = some (.int .i64 d.1) ∧ W.cell? ⟨h, 1, none⟩ = some (.int .i64 d.2) ∧ Below w.heap.size w W
theorem MeSt.step {w W w2 : World} {v0 v1 v2 u0 u1 u2 : Value} {p q m h : Nat} {a b c d : Int × Int} (s : MeSt w v0 v1 v2 u0 u1 u2 p q m h a b c d W) (hb : Below W.heap.size W w2) : MeSt w v0 v1 v2 u0 u1 u2 p q m h a b c d w2 := by
  obtain ⟨h0, h1, h2, h3, h4, h5, h6, h7, h8, h9, i0, i1, i2, i3, i4⟩ := s
  exact ⟨cell_step h0 hb, cell_step h1 hb, cell_step h2 hb, cell_step h3 hb, cell_step h4 hb, cell_step h5 hb, cell_step h6 hb, cell_step h7 hb, cell_step h8 hb, cell_step h9 hb, cell_step i0 hb, cell_step i1 hb, cell_step i2 hb, cell_step i3 hb, bStep i4 hb⟩
theorem MeSt.mk' {w W : World} {v0 v1 v2 u0 u1 u2 : Value} {p q m h : Nat} {a b c d : Int × Int} (s : SmBox w v0 v1 v2 u0 u1 u2 W) (ha : Two p a.1 a.2 W) (hb : Two q b.1 b.2 W) (hc : Two m c.1 c.2 W) (hd : Two h d.1 d.2 W) : MeSt w v0 v1 v2 u0 u1 u2 p q m h a b c d W := by
  obtain ⟨h0, h1, h2, h3, h4, h5, h6⟩ := s
  exact ⟨h0, h1, h2, h3, h4, h5, ha.1, ha.2, hb.1, hb.2, hc.1, hc.2, hd.1, hd.2, h6⟩
/-- A row of nine numbers in memory. -/
def Nine (s : Nat) (W : World) : Prop := ∀ k, k < 9 → ∃ v : Int, W.cell? ⟨s, k, none⟩ = some (.int .i64 v)
theorem Nine.step {s : Nat} {W w2 : World} (h : Nine s W) (hb : Below W.heap.size W w2) : Nine s w2 := fun k hk => (h k hk).imp fun _ e => cell_step e hb
theorem Nine.new {W : World} {a b c d e f g h i : Int} {T : TypeId} : Nine W.heap.size (W.alloc (.cells #[.int .i64 a, .int .i64 b, .int .i64 c, .int .i64 d, .int .i64 e, .int .i64 f, .int .i64 g, .int .i64 h, .int .i64 i] T)) := fun k hk => by
  have : k = 0 ∨ k = 1 ∨ k = 2 ∨ k = 3 ∨ k = 4 ∨ k = 5 ∨ k = 6 ∨ k = 7 ∨ k = 8 := by omega
  rcases this with rfl | rfl | rfl | rfl | rfl | rfl | rfl | rfl | rfl
  · exact ⟨a, by go_simp⟩
  · exact ⟨b, by go_simp⟩
  · exact ⟨c, by go_simp⟩
  · exact ⟨d, by go_simp⟩
  · exact ⟨e, by go_simp⟩
  · exact ⟨f, by go_simp⟩
  · exact ⟨g, by go_simp⟩
  · exact ⟨h, by go_simp⟩
  · exact ⟨i, by go_simp⟩
/-- The row, as a region makes it. -/
def NineF (b : Bool) (s : Value) (W : World) : Prop := b = true → ∃ r, s = .slice (some ⟨r, 0, none⟩) 9 9 ∧ Nine r W
theorem NineF.step {b : Bool} {s : Value} {W w2 : World} (h : NineF b s W) (hb : Below W.heap.size W w2) : NineF b s w2 := fun e => (h e).imp fun _ e => ⟨e.1, e.2.step hb⟩
theorem NineF.no {s : Value} {W : World} : NineF false s W := fun e => by cases e
theorem NineF.new {W : World} {a b c d e f g h i : Int} {T : TypeId} : NineF true (.slice (some ⟨W.heap.size, 0, none⟩) 9 9) (W.alloc (.cells #[.int .i64 a, .int .i64 b, .int .i64 c, .int .i64 d, .int .i64 e, .int .i64 f, .int .i64 g, .int .i64 h, .int .i64 i] T)) := fun _ => ⟨_, rfl, Nine.new⟩
theorem MeSt.drew {w W : World} {v0 v1 v2 u0 u1 u2 : Value} {p q m h : Nat} {a b c d : Int × Int} (s : MeSt w v0 v1 v2 u0 u1 u2 p q m h a b c d W) : MeSt w v0 v1 v2 u0 u1 u2 p q m h a b c d W.drew := s.step (Below.refl _ _).drew

set_option maxHeartbeats 4000000 in
set_option maxRecDepth 20000 in
theorem meets_core (lo ln at1 lo' ln' at2 x : Int) (w : World) (h1 : -32768 ≤ lo) (h2 : lo ≤ 32767) (h3 : -32768 ≤ ln) (h4 : ln ≤ 32767) (h5 : 0 ≤ at1) (h6 : at1 ≤ 65535)
    (g1 : -32768 ≤ lo') (g2 : lo' ≤ 32767) (g3 : -32768 ≤ ln') (g4 : ln' ≤ 32767) (g5 : 0 ≤ at2) (g6 : at2 ≤ 65535) (x1 : -32768 ≤ x) (x2 : x ≤ 32767) :
    Calls Try.prog 3 #[.agg #[.int .i16 lo, .int .i16 ln, .int .u16 at1], .agg #[.int .i16 lo', .int .i16 ln', .int .u16 at2], .int .i16 x] w fun e w' => e = .returned (.bool true) ∧ Below w.heap.size w w' := by
  have P := Lib.hid (fun w => span_any lo ln at1 w h1 h2 h3 h4)
  have Q := Lib.hid (fun w => span_any lo' ln' at2 w g1 g2 g3 g4)
  have N := Lib.hid (fun w => number_small lo ln at1 w h1 h2 h3 h4 h5 h6)
  have M := Lib.hid (fun w => number_small lo' ln' at2 w g1 g2 g3 g4 g5 g6)
  have hp := spanOf_ok h1 h2 h3 h4
  have hq := spanOf_ok g1 g2 g3 g4
  have CM := Lib.hid (fun w => Meet_any (spanOf lo ln) (spanOf lo' ln') w)
  have CH := Lib.hid (fun w => Hull_any (spanOf lo ln) (spanOf lo' ln') w)
  have LM := Lib.hid (meet_law hp hq)
  have LH := Lib.hid (hull_law hp hq)
  have CS := Lib.hid Has_any
  clear hp hq
  generalize meetS (spanOf lo ln) (spanOf lo' ln') = vm at *
  generalize hullS (spanOf lo ln) (spanOf lo' ln') = vh at *
  obtain ⟨vm, me⟩ := vm
  obtain ⟨vh, he⟩ := vh
  dsimp only at LM LH CM CH
  obtain rfl : he = 0 := LH.out.1
  have hp' := lenOf_bd h3 h4
  have hq' := lenOf_bd g3 g4
  unfold spanOf at *
  generalize hA : lo + lenOf ln = hi at *
  generalize hB : lo' + lenOf ln' = hi' at *
  generalize numOf lo ln at1 = n1 at *
  generalize numOf lo' ln' at2 = n2 at *
  have i1 : lo ≤ hi := by omega
  have i2 : hi ≤ 65534 := by omega
  have i3 : lo' ≤ hi' := by omega
  have i4 : hi' ≤ 65534 := by omega
  clear hA hB hp' hq'
  go_enter Try.func3, Try.ntmps3
  go_wp2
  have hS : SmBox w (.int .i16 lo) (.int .i16 ln) (.int .u16 at1) (.int .i16 lo') (.int .i16 ln') (.int .u16 at2) ((w.alloc (Obj.cells #[.int .i16 lo, .int .i16 ln, .int .u16 at1] 25)).alloc (Obj.cells #[.int .i16 lo', .int .i16 ln', .int .u16 at2] 25)) := by
    refine ⟨?_, ?_, ?_, ?_, ?_, ?_, (by repeat' (first | exact Below.refl _ _ | assumption | apply bDrewN | apply bDrew | apply bAlloc | (refine bSet ?_ ?_ _) | (refine bStep ?_ (by assumption)) | omega | (simp <;> omega)))⟩ <;> go_simp
  have HS := Lib.hid hS
  clear hS
  go_cut [7, 8] (fun s7 s8 W => ∃ p q : Nat, s7 = .pointer (some ⟨p, 0, none⟩) ∧ s8 = .pointer (some ⟨q, 0, none⟩) ∧ W.cell? ⟨p, 0, none⟩ = some (.int .i64 lo) ∧ W.cell? ⟨p, 1, none⟩ = some (.int .i64 hi) ∧ W.cell? ⟨q, 0, none⟩ = some (.int .i64 lo') ∧ W.cell? ⟨q, 1, none⟩ = some (.int .i64 hi') ∧
    SmBox w (.int .i16 lo) (.int .i16 ln) (.int .u16 at1) (.int .i16 lo') (.int .i16 ln') (.int .u16 at2) W)
  case first =>
    generalize hA0 : (Act.mk _ _) = A0
    refine region_inv (by kernel_rfl) (by kernel_rfl) (fun l a W => ∃ (b0 b1 b2 b3 b4 b5 b6 b7 : Bool) (v17 v18 v19 v20 v7 v8 : Value), l = #[b0, b1, b2, b3, b4, b5, b6, b7] ∧ a = updAll A0 [(17, v17), (18, v18), (19, v19), (20, v20), (7, v7), (8, v8)] ∧ (b0 = true → v17 = (.agg #[.int .i16 lo, .int .i16 ln, .int .u16 at1])) ∧ (b1 = true → v18 = (.agg #[.int .i64 lo, .int .i64 hi])) ∧ (b2 = true → v19 = (.agg #[.int .i16 lo', .int .i16 ln', .int .u16 at2])) ∧ (b3 = true → v20 = (.agg #[.int .i64 lo', .int .i64 hi'])) ∧ (b4 = false → b6 = false) ∧ (b5 = false → b7 = false) ∧ SmBox w (.int .i16 lo) (.int .i16 ln) (.int .u16 at1) (.int .i16 lo') (.int .i16 ln') (.int .u16 at2) W ∧ w.heap.size + 2 ≤ W.heap.size ∧ BoxF b4 b6 v7 (w.heap.size + 2) #[.int .i64 0, .int .i64 0] #[.int .i64 lo, .int .i64 hi] 27 W ∧ BoxF b5 b7 v8 (w.heap.size + 2) #[.int .i64 0, .int .i64 0] #[.int .i64 lo', .int .i64 hi'] 27 W ∧ Apart b4 b5 v7 v8) ?h0 ?hsz ?step ?done
    case h0 =>
      refine ⟨false, false, false, false, false, false, false, false, A0.tmps.getD 17 undef, A0.tmps.getD 18 undef, A0.tmps.getD 19 undef, A0.tmps.getD 20 undef, A0.tmps.getD 7 undef, A0.tmps.getD 8 undef, by rfl, ?_, by simp, by simp, by simp, by simp, by simp, by simp, HS.out.drew, by simp, BoxF.no, BoxF.no, Apart.no⟩
      rw [← hA0]
      simp [updAll, Act.put]
    case hsz =>
      rintro l a W ⟨b0, b1, b2, b3, b4, b5, b6, b7, v17, v18, v19, v20, v7, v8, rfl, -⟩
      rfl
    case step =>
      intro iop oop hopi lst act W hInv hlst hdep
      obtain ⟨b0, b1, b2, b3, b4, b5, b6, b7, v17, v18, v19, v20, v7, v8, rfl, rfl, f0, f1, f2, f3, g4, g5, hM, hz, x4, x5, y4_5⟩ := hInv
      have hi8 : iop < 8 := (Array.getElem?_eq_some_iff.1 hopi).1
      have hi9 : iop = 0 ∨ iop = 1 ∨ iop = 2 ∨ iop = 3 ∨ iop = 4 ∨ iop = 5 ∨ iop = 6 ∨ iop = 7 := by omega
      rcases hi9 with rfl | rfl | rfl | rfl | rfl | rfl | rfl | rfl
      · obtain rfl : b0 = false := by simpa using hlst
        obtain rfl := Option.some.inj (show some _ = some oop from hopi)
        refine step_to (a' := (updAll A0 [(17, v17), (18, v18), (19, v19), (20, v20), (7, v7), (8, v8)]).put (some 17) ((.agg #[.int .i16 lo, .int .i16 ln, .int .u16 at1]))) (w' := W) ?_ ?_
        · intro K' hK'
          subst hA0
          obtain ⟨c1, c2, c3, c4, c5, c6, cB⟩ := id hM
          refine wpOp_plain rfl rfl ?_
          simp only [updAll, Act.put, List.setIfInBounds_toArray, List.set_cons_zero, List.set_cons_succ] at hK' ⊢
          go_wp2
          exact hK'
        · refine ⟨true, b1, b2, b3, b4, b5, b6, b7, _, v18, v19, v20, v7, v8, by rfl, ?_, fun _ => rfl, f1, f2, f3, g4, g5, hM, hz, x4, x5, y4_5⟩
          rw [← hA0]
          simp [updAll, Act.put]
      · obtain rfl : b1 = false := by simpa using hlst
        obtain rfl := Option.some.inj (show some _ = some oop from hopi)
        obtain rfl : b0 = true := by
          rcases Bool.eq_false_or_eq_true b0 with hbb | hbb
          · exact hbb
          · exfalso; subst hbb; revert hdep; simp [Region.binds]
        have e0 := f0 rfl
        subst e0
        refine step_ex (fun a' w' => a' = (updAll A0 [(17, (.agg #[.int .i16 lo, .int .i16 ln, .int .u16 at1])), (18, v18), (19, v19), (20, v20), (7, v7), (8, v8)]).put (some 18) ((.agg #[.int .i64 lo, .int .i64 hi])) ∧ Below W.heap.size W w') ?_ ?_
        · intro K' hK'
          subst hA0
          obtain ⟨c1, c2, c3, c4, c5, c6, cB⟩ := id hM
          refine wpOp_plain rfl rfl ?_
          simp only [updAll, Act.put, List.setIfInBounds_toArray, List.set_cons_zero, List.set_cons_succ] at hK' ⊢
          go_wp2_with (go_at_call 13; refine (P.out _).mono ?_; rintro e w1 ⟨rfl, hb1⟩)
          all_goals (first | exact ⟨rfl, hb1⟩ | exact hK' _ _ ⟨rfl, hb1⟩)
        · rintro a' w' ⟨rfl, hb1⟩
          refine ⟨true, true, b2, b3, b4, b5, b6, b7, (.agg #[.int .i16 lo, .int .i16 ln, .int .u16 at1]), _, v19, v20, v7, v8, by rfl, ?_, fun _ => rfl, fun _ => rfl, f2, f3, g4, g5, hM.step hb1, Nat.le_trans hz hb1.size, x4.step hb1, x5.step hb1, y4_5⟩
          rw [← hA0]
          simp [updAll, Act.put]
      · obtain rfl : b2 = false := by simpa using hlst
        obtain rfl := Option.some.inj (show some _ = some oop from hopi)
        refine step_to (a' := (updAll A0 [(17, v17), (18, v18), (19, v19), (20, v20), (7, v7), (8, v8)]).put (some 19) ((.agg #[.int .i16 lo', .int .i16 ln', .int .u16 at2]))) (w' := W) ?_ ?_
        · intro K' hK'
          subst hA0
          obtain ⟨c1, c2, c3, c4, c5, c6, cB⟩ := id hM
          refine wpOp_plain rfl rfl ?_
          simp only [updAll, Act.put, List.setIfInBounds_toArray, List.set_cons_zero, List.set_cons_succ] at hK' ⊢
          go_wp2
          exact hK'
        · refine ⟨b0, b1, true, b3, b4, b5, b6, b7, v17, v18, _, v20, v7, v8, by rfl, ?_, f0, f1, fun _ => rfl, f3, g4, g5, hM, hz, x4, x5, y4_5⟩
          rw [← hA0]
          simp [updAll, Act.put]
      · obtain rfl : b3 = false := by simpa using hlst
        obtain rfl := Option.some.inj (show some _ = some oop from hopi)
        obtain rfl : b2 = true := by
          rcases Bool.eq_false_or_eq_true b2 with hbb | hbb
          · exact hbb
          · exfalso; subst hbb; revert hdep; simp [Region.binds]
        have e2 := f2 rfl
        subst e2
        refine step_ex (fun a' w' => a' = (updAll A0 [(17, v17), (18, v18), (19, (.agg #[.int .i16 lo', .int .i16 ln', .int .u16 at2])), (20, v20), (7, v7), (8, v8)]).put (some 20) ((.agg #[.int .i64 lo', .int .i64 hi'])) ∧ Below W.heap.size W w') ?_ ?_
        · intro K' hK'
          subst hA0
          obtain ⟨c1, c2, c3, c4, c5, c6, cB⟩ := id hM
          refine wpOp_plain rfl rfl ?_
          simp only [updAll, Act.put, List.setIfInBounds_toArray, List.set_cons_zero, List.set_cons_succ] at hK' ⊢
          go_wp2_with (go_at_call 13; refine (Q.out _).mono ?_; rintro e w1 ⟨rfl, hb1⟩)
          all_goals (first | exact ⟨rfl, hb1⟩ | exact hK' _ _ ⟨rfl, hb1⟩)
        · rintro a' w' ⟨rfl, hb1⟩
          refine ⟨b0, b1, true, true, b4, b5, b6, b7, v17, v18, (.agg #[.int .i16 lo', .int .i16 ln', .int .u16 at2]), _, v7, v8, by rfl, ?_, f0, f1, fun _ => rfl, fun _ => rfl, g4, g5, hM.step hb1, Nat.le_trans hz hb1.size, x4.step hb1, x5.step hb1, y4_5⟩
          rw [← hA0]
          simp [updAll, Act.put]
      · obtain rfl : b4 = false := by simpa using hlst
        obtain rfl := Option.some.inj (show some _ = some oop from hopi)
        have e_st := g4 rfl
        subst e_st
        refine step_to (a' := (updAll A0 [(17, v17), (18, v18), (19, v19), (20, v20), (7, v7), (8, v8)]).put (some 7) (.pointer (some ⟨W.heap.size, 0, none⟩))) (w' := W.alloc (.cells #[.int .i64 0, .int .i64 0] 27)) ?_ ?_
        · intro K' hK'
          subst hA0
          refine wpOp_plain rfl rfl ?_
          simp only [updAll, Act.put, List.setIfInBounds_toArray, List.set_cons_zero, List.set_cons_succ] at hK' ⊢
          go_wp2
          exact hK'
        · refine ⟨b0, b1, b2, b3, true, b5, false, b7, v17, v18, v19, v20, _, v8, by rfl, ?_, f0, f1, f2, f3, by simp, g5, hM.alloc, (by first | omega | (simp; omega) | simp), BoxF.new hz, x5.step ((Below.refl _ _).alloc (Nat.le_refl _) _), Apart.new x5⟩
          rw [← hA0]
          simp [updAll, Act.put]
      · obtain rfl : b5 = false := by simpa using hlst
        obtain rfl := Option.some.inj (show some _ = some oop from hopi)
        have e_st := g5 rfl
        subst e_st
        refine step_to (a' := (updAll A0 [(17, v17), (18, v18), (19, v19), (20, v20), (7, v7), (8, v8)]).put (some 8) (.pointer (some ⟨W.heap.size, 0, none⟩))) (w' := W.alloc (.cells #[.int .i64 0, .int .i64 0] 27)) ?_ ?_
        · intro K' hK'
          subst hA0
          refine wpOp_plain rfl rfl ?_
          simp only [updAll, Act.put, List.setIfInBounds_toArray, List.set_cons_zero, List.set_cons_succ] at hK' ⊢
          go_wp2
          exact hK'
        · refine ⟨b0, b1, b2, b3, b4, true, b6, false, v17, v18, v19, v20, v7, _, by rfl, ?_, f0, f1, f2, f3, g4, by simp, hM.alloc, (by first | omega | (simp; omega) | simp), x4.step ((Below.refl _ _).alloc (Nat.le_refl _) _), BoxF.new hz, (Apart.new x4).symm⟩
          rw [← hA0]
          simp [updAll, Act.put]
      · obtain rfl : b6 = false := by simpa using hlst
        obtain rfl := Option.some.inj (show some _ = some oop from hopi)
        obtain rfl : b4 = true := by
          rcases Bool.eq_false_or_eq_true b4 with hbb | hbb
          · exact hbb
          · exfalso; subst hbb; revert hdep; simp [Region.binds]
        obtain rfl : b1 = true := by
          rcases Bool.eq_false_or_eq_true b1 with hbb | hbb
          · exact hbb
          · exfalso; subst hbb; revert hdep; simp [Region.binds]
        have e1 := f1 rfl
        subst e1
        obtain ⟨r, hr1, hr2, hr3⟩ := x4 rfl
        subst hr1
        simp only [Bool.false_eq_true, if_false] at hr3
        refine step_to (a' := updAll A0 [(17, v17), (18, (.agg #[.int .i64 lo, .int .i64 hi])), (19, v19), (20, v20), (7, (.pointer (some ⟨r, 0, none⟩))), (8, v8)]) (w' := ((W.setCell ⟨r, 0, none⟩ (.int .i64 lo)).setCell ⟨r, 1, none⟩ (.int .i64 hi))) ?_ ?_
        · intro K' hK'
          subst hA0
          have q0 := blk_cell (o := 0) hr3 rfl
          have p0 := blk_free (o := 0) hr3
          have q1 := blk_cell (o := 1) hr3 rfl
          have p1 := blk_free (o := 1) hr3
          refine wpOp_plain rfl rfl ?_
          simp only [updAll, Act.put, List.setIfInBounds_toArray, List.set_cons_zero, List.set_cons_succ] at hK' ⊢
          go_wp2
          exact hK'
        · exact ⟨b0, true, b2, b3, true, b5, true, b7, v17, (.agg #[.int .i64 lo, .int .i64 hi]), v19, v20, (.pointer (some ⟨r, 0, none⟩)), v8, by rfl, rfl, f0, fun _ => rfl, f2, f3, by simp, g5, ((hM.set (by omega)).set (by omega)), by simpa using hz, fun _ => ⟨r, rfl, hr2, (blk_set (blk_set hr3))⟩, ((x5.setFar (fun e => (y4_5.symm e rfl)) _ _).setFar (fun e => (y4_5.symm e rfl)) _ _), y4_5⟩
      · obtain rfl : b7 = false := by simpa using hlst
        obtain rfl := Option.some.inj (show some _ = some oop from hopi)
        obtain rfl : b5 = true := by
          rcases Bool.eq_false_or_eq_true b5 with hbb | hbb
          · exact hbb
          · exfalso; subst hbb; revert hdep; simp [Region.binds]
        obtain rfl : b3 = true := by
          rcases Bool.eq_false_or_eq_true b3 with hbb | hbb
          · exact hbb
          · exfalso; subst hbb; revert hdep; simp [Region.binds]
        have e3 := f3 rfl
        subst e3
        obtain ⟨r, hr1, hr2, hr3⟩ := x5 rfl
        subst hr1
        simp only [Bool.false_eq_true, if_false] at hr3
        refine step_to (a' := updAll A0 [(17, v17), (18, v18), (19, v19), (20, (.agg #[.int .i64 lo', .int .i64 hi'])), (7, v7), (8, (.pointer (some ⟨r, 0, none⟩)))]) (w' := ((W.setCell ⟨r, 0, none⟩ (.int .i64 lo')).setCell ⟨r, 1, none⟩ (.int .i64 hi'))) ?_ ?_
        · intro K' hK'
          subst hA0
          have q0 := blk_cell (o := 0) hr3 rfl
          have p0 := blk_free (o := 0) hr3
          have q1 := blk_cell (o := 1) hr3 rfl
          have p1 := blk_free (o := 1) hr3
          refine wpOp_plain rfl rfl ?_
          simp only [updAll, Act.put, List.setIfInBounds_toArray, List.set_cons_zero, List.set_cons_succ] at hK' ⊢
          go_wp2
          exact hK'
        · exact ⟨b0, b1, b2, true, b4, true, b6, true, v17, v18, v19, (.agg #[.int .i64 lo', .int .i64 hi']), v7, (.pointer (some ⟨r, 0, none⟩)), by rfl, rfl, f0, f1, f2, fun _ => rfl, g4, by simp, ((hM.set (by omega)).set (by omega)), by simpa using hz, ((x4.setFar (fun e => y4_5 e rfl) _ _).setFar (fun e => y4_5 e rfl) _ _), fun _ => ⟨r, rfl, hr2, (blk_set (blk_set hr3))⟩, y4_5⟩
    case done =>
      rintro l a W ⟨b0, b1, b2, b3, b4, b5, b6, b7, v17, v18, v19, v20, v7, v8, rfl, rfl, f0, f1, f2, f3, g4, g5, hM, hz, x4, x5, y4_5⟩ hall
      obtain rfl : b0 = true := by simpa using hall 0 (by decide)
      obtain rfl : b1 = true := by simpa using hall 1 (by decide)
      obtain rfl : b2 = true := by simpa using hall 2 (by decide)
      obtain rfl : b3 = true := by simpa using hall 3 (by decide)
      obtain rfl : b4 = true := by simpa using hall 4 (by decide)
      obtain rfl : b5 = true := by simpa using hall 5 (by decide)
      obtain rfl : b6 = true := by simpa using hall 6 (by decide)
      obtain rfl : b7 = true := by simpa using hall 7 (by decide)
      have e0 := f0 rfl
      subst e0
      have e1 := f1 rfl
      subst e1
      have e2 := f2 rfl
      subst e2
      have e3 := f3 rfl
      subst e3
      obtain ⟨r4, e4, k4, m4⟩ := x4 rfl
      subst e4
      simp only [if_true] at m4
      obtain ⟨r5, e5, k5, m5⟩ := x5 rfl
      subst e5
      simp only [if_true] at m5
      subst hA0
      simp only [updAll, Act.put, List.setIfInBounds_toArray, List.set_cons_zero, List.set_cons_succ]
      go_wp2_with fail
      go_meet
      exact ⟨r4, r5, rfl, rfl, blk_cell m4 rfl, blk_cell m4 rfl, blk_cell m5 rfl, blk_cell m5 rfl, hM⟩
  case rest =>
    obtain ⟨p, q, rfl, rfl, d1, d2, d3, d4, hM⟩ := hcut
    have hT1 : Two p lo hi wc := ⟨d1, d2⟩
    have hT2 : Two q lo' hi' wc := ⟨d3, d4⟩
    have G := Lib.hid (show SmBox w (.int .i16 lo) (.int .i16 ln) (.int .u16 at1) (.int .i16 lo') (.int .i16 ln') (.int .u16 at2) wc ∧ Two p lo hi wc ∧ Two q lo' hi' wc from ⟨hM, hT1, hT2⟩)
    clear hM hT1 hT2
    go_wp2_with (first | (go_at_call 14; refine (CM.out _).mono ?_; rintro e w5 ⟨rfl, hb5⟩; have k1 := cell_step d1 hb5; have k2 := cell_step d2 hb5; have k3 := cell_step d3 hb5; have k4 := cell_step d4 hb5; have hlp := cell_lt k1; have hlq := cell_lt k3) | (go_at_call 15; go_loud (refine (CH.out _).mono ?_; rintro e w6 ⟨rfl, hb6⟩)) | fail)
    have hSt : MeSt w (.int .i16 lo) (.int .i16 ln) (.int .u16 at1) (.int .i16 lo') (.int .i16 ln') (.int .u16 at2) p q w5.heap.size w6.heap.size (lo, hi) (lo', hi') vm vh (w6.alloc (Obj.cells #[Value.int IntKind.i64 vh.fst, Value.int IntKind.i64 vh.snd] 27)) :=
      MeSt.mk' ((((G.out.1.step hb5).alloc).step hb6).alloc) ((((G.out.2.1.step hb5).step bAl).step hb6).step bAl) ((((G.out.2.2.step hb5).step bAl).step hb6).step bAl) ((Two.new.step hb6).step bAl) Two.new
    generalize w6.alloc (Obj.cells #[Value.int IntKind.i64 vh.fst, Value.int IntKind.i64 vh.snd] 27) = W0 at *
    clear hb5 hb6 k1 k2 k3 k4 hlp hlq d1 d2 d3 d4 G
    generalize w5.heap.size = m at *
    generalize w6.heap.size = h at *
    have HSt := Lib.hid hSt
    clear hSt
    go_cut [53, 54, 55] (fun s53 s54 s55 W => ∃ r : Nat, s53 = .slice (some ⟨r, 0, none⟩) 9 9 ∧ s54 = .int .i64 9 ∧ s55 = .int .i64 0 ∧ MeSt w (.int .i16 lo) (.int .i16 ln) (.int .u16 at1) (.int .i16 lo') (.int .i16 ln') (.int .u16 at2) p q m h (lo, hi) (lo', hi') vm vh W ∧ Nine r W)
    case first =>
      obtain ⟨e0, e1, e2, e3, e4, e5, e6, e7, e8, e9, i0, i1, i2, i3, kB⟩ := id HSt.out
      go_region_held3 (fun W => W.cell? ⟨w.heap.size, 0, none⟩ = some (.int .i16 lo) ∧ W.cell? ⟨w.heap.size, 1, none⟩ = some (.int .i16 ln) ∧ W.cell? ⟨w.heap.size, 2, none⟩ = some (.int .u16 at1) ∧ W.cell? ⟨w.heap.size + 1, 0, none⟩ = some (.int .i16 lo') ∧ W.cell? ⟨w.heap.size + 1, 1, none⟩ = some (.int .i16 ln') ∧ W.cell? ⟨w.heap.size + 1, 2, none⟩ = some (.int .u16 at2) ∧ W.cell? ⟨p, 0, none⟩ = some (.int .i64 lo) ∧ W.cell? ⟨p, 1, none⟩ = some (.int .i64 hi) ∧ W.cell? ⟨q, 0, none⟩ = some (.int .i64 lo') ∧ W.cell? ⟨q, 1, none⟩ = some (.int .i64 hi') ∧ W.cell? ⟨m, 0, none⟩ = some (.int .i64 vm.1) ∧ W.cell? ⟨m, 1, none⟩ = some (.int .i64 vm.2) ∧ W.cell? ⟨h, 0, none⟩ = some (.int .i64 vh.1) ∧ W.cell? ⟨h, 1, none⟩ = some (.int .i64 vh.2) ∧ Below w.heap.size w W)
        ((first | exact MeSt.step HSt.out (Below.refl _ _).drew | exact MeSt.step (show MeSt w (.int .i16 lo) (.int .i16 ln) (.int .u16 at1) (.int .i16 lo') (.int .i16 ln') (.int .u16 at2) p q m h (lo, hi) (lo', hi') vm vh _ by assumption) (by assumption) | exact MeSt.step (show MeSt w (.int .i16 lo) (.int .i16 ln) (.int .u16 at1) (.int .i16 lo') (.int .i16 ln') (.int .u16 at2) p q m h (lo, hi) (lo', hi') vm vh _ by assumption) bAl))
        ((first | (go_at_call 16; first | (with_reducible refine (N.out _).mono ?_; rintro e w7 ⟨rfl, hb7⟩) | (with_reducible refine (M.out _).mono ?_; rintro e w7 ⟨rfl, hb7⟩))))
      all_goals (go_wp2_with fail; go_meet; have hX : MeSt w (.int .i16 lo) (.int .i16 ln) (.int .u16 at1) (.int .i16 lo') (.int .i16 ln') (.int .u16 at2) p q m h (lo, hi) (lo', hi') vm vh _ := ‹_ ∧ _ ∧ _ ∧ _ ∧ _ ∧ _ ∧ _ ∧ _ ∧ _ ∧ _ ∧ _ ∧ _ ∧ _ ∧ _ ∧ Below _ _ _›; exact ⟨_, rfl, rfl, rfl, hX, Nine.new⟩)
    case rest =>
      obtain ⟨r, rfl, rfl, rfl, hSt', hN⟩ := hcut
      clear HSt N M P Q CM CH
      have HSt := Lib.hid hSt'
      have HN := Lib.hid hN
      clear hSt' hN
      rcases LM.out with ⟨rfl, hq⟩ | ⟨rfl, hq⟩
      all_goals clear LM
      · have LM := Lib.hid hq
        clear hq
        go_wp2_with fail
        go_loopw [55] (fun i wr => ∃ k : Nat, k ≤ 9 ∧ i = .int .i64 k ∧ MeSt w (.int .i16 lo) (.int .i16 ln) (.int .u16 at1) (.int .i16 lo') (.int .i16 ln') (.int .u16 at2) p q m h (lo, hi) (lo', hi') vm vh wr ∧ Hid (Nine r wr)) (fun i _ => 9 - (intOf i).toNat)
        case atStart => exact ⟨0, by omega, rfl, HSt.out, HN⟩
        case round =>
          obtain ⟨k, hk, rfl, hM, HN2⟩ := hrel
          clear HSt HN
          obtain ⟨e0, e1, e2, e3, e4, e5, e6, e7, e8, e9, i0, i1, i2, i3, kB⟩ := id hM
          have HM := Lib.hid hM
          clear hM
          by_cases hlt : k < 9
          · obtain ⟨v, hv⟩ := HN2.out k hlt
            go_upto_region 7 with fail
            go_cut [15] from 56 to 125 (fun s15 W => ∃ both : Bool, s15 = .bool both ∧ Hid ((decide (lo ≤ v) && decide (v ≤ hi) && (decide (lo' ≤ v) && decide (v ≤ hi'))) = both) ∧ W = wr)
            case first =>
              cases t1 : decide (lo ≤ v) <;> cases t2 : decide (v ≤ hi) <;> cases t3 : decide (lo' ≤ v) <;> cases t4 : decide (v ≤ hi')
              all_goals (go_wp2_with fail; go_meet; exact ⟨_, rfl, by rw [t1, t2, t3, t4]; rfl, rfl⟩)
            case rest =>
              obtain ⟨both, rfl, HB, hwc⟩ := hcut
              obtain rfl : wr = wc := hwc.symm
              clear hwc
              go_upto_region 8 with fail
              go_cut [16] from 56 to 125 (fun s16 W => ∃ one : Bool, s16 = .bool one ∧ Hid ((decide (lo ≤ v) && decide (v ≤ hi) || (decide (lo' ≤ v) && decide (v ≤ hi'))) = one) ∧ W = wr)
              case first =>
                cases t1 : decide (lo ≤ v) <;> cases t2 : decide (v ≤ hi) <;> cases t3 : decide (lo' ≤ v) <;> cases t4 : decide (v ≤ hi')
                all_goals (go_wp2_with fail; go_meet; exact ⟨_, rfl, by rw [t1, t2, t3, t4]; rfl, rfl⟩)
              case rest =>
                obtain ⟨one, rfl, HO, hwc⟩ := hcut
                obtain rfl : wr = wc := hwc.symm
                clear hwc
                have l4 : hasS vm v = (decide (lo ≤ v) && decide (v ≤ hi) && (decide (lo' ≤ v) && decide (v ≤ hi'))) := LM.out v
                rw [HB.out] at l4
                have l5 : (decide (lo ≤ v) && decide (v ≤ hi) || (decide (lo' ≤ v) && decide (v ≤ hi'))) = true → hasS vh v = true := LH.out.2 v
                rw [HO.out] at l5
                clear HB HO
                have KM := Lib.hid (fun w => CS.out vm v w)
                have KH := Lib.hid (fun w => CS.out vh v w)
                have HL := Lib.hid l5
                clear l5 LM LH CS
                cases one
                all_goals (try (have l6 := HL.out rfl; rw [l6] at KH; clear l6))
                all_goals (clear HL)
                all_goals (rw [l4] at KM; clear l4; cases both)
                all_goals
                  go_wp2_with (go_at_call 17; (first | (with_reducible refine (KM.out _).mono ?_) | (with_reducible refine (KH.out _).mono ?_)); rintro e w8 ⟨rfl, hb8⟩; have HM := Lib.hid (HM.out.step hb8); have HN2 := Lib.hid (HN2.out.step hb8); have i2 := cell_step i2 hb8; have i3 := cell_step i3 hb8)
                  go_roundw
                  case rel =>
                    refine ⟨k + 1, by omega, ?_, ?_, ?_⟩
                    · go_num
                    · with_reducible exact HM.out
                    · with_reducible exact HN2
                  case measure => (simp [intOf]; omega)
          · clear LM LH CS
            go_wp2_with (go_at_call 18; refine (works_any _).mono ?_; rintro e w8 ⟨rfl, hb8⟩)
            go_ret
            exact ⟨rfl, (by repeat' (first | exact Below.refl _ _ | assumption | apply bDrewN | apply bDrew | apply bAlloc | (refine bSet ?_ ?_ _) | (refine bStep ?_ (by assumption)) | omega | (simp <;> omega)))⟩
      · have LM := Lib.hid hq
        clear hq
        go_wp2_with fail
        go_loopw [55] (fun i wr => ∃ k : Nat, k ≤ 9 ∧ i = .int .i64 k ∧ MeSt w (.int .i16 lo) (.int .i16 ln) (.int .u16 at1) (.int .i16 lo') (.int .i16 ln') (.int .u16 at2) p q m h (lo, hi) (lo', hi') vm vh wr ∧ Hid (Nine r wr)) (fun i _ => 9 - (intOf i).toNat)
        case atStart => exact ⟨0, by omega, rfl, HSt.out, HN⟩
        case round =>
          obtain ⟨k, hk, rfl, hM, HN2⟩ := hrel
          clear HSt HN
          obtain ⟨e0, e1, e2, e3, e4, e5, e6, e7, e8, e9, i0, i1, i2, i3, kB⟩ := id hM
          have HM := Lib.hid hM
          clear hM
          by_cases hlt : k < 9
          · obtain ⟨v, hv⟩ := HN2.out k hlt
            go_upto_region 7 with fail
            go_cut [15] from 56 to 125 (fun s15 W => ∃ both : Bool, s15 = .bool both ∧ Hid ((decide (lo ≤ v) && decide (v ≤ hi) && (decide (lo' ≤ v) && decide (v ≤ hi'))) = both) ∧ W = wr)
            case first =>
              cases t1 : decide (lo ≤ v) <;> cases t2 : decide (v ≤ hi) <;> cases t3 : decide (lo' ≤ v) <;> cases t4 : decide (v ≤ hi')
              all_goals (go_wp2_with fail; go_meet; exact ⟨_, rfl, by rw [t1, t2, t3, t4]; rfl, rfl⟩)
            case rest =>
              obtain ⟨both, rfl, HB, hwc⟩ := hcut
              obtain rfl : wr = wc := hwc.symm
              clear hwc
              go_upto_region 8 with fail
              go_cut [16] from 56 to 125 (fun s16 W => ∃ one : Bool, s16 = .bool one ∧ Hid ((decide (lo ≤ v) && decide (v ≤ hi) || (decide (lo' ≤ v) && decide (v ≤ hi'))) = one) ∧ W = wr)
              case first =>
                cases t1 : decide (lo ≤ v) <;> cases t2 : decide (v ≤ hi) <;> cases t3 : decide (lo' ≤ v) <;> cases t4 : decide (v ≤ hi')
                all_goals (go_wp2_with fail; go_meet; exact ⟨_, rfl, by rw [t1, t2, t3, t4]; rfl, rfl⟩)
              case rest =>
                obtain ⟨one, rfl, HO, hwc⟩ := hcut
                obtain rfl : wr = wc := hwc.symm
                clear hwc
                have l4 : (decide (lo ≤ v) && decide (v ≤ hi) && (decide (lo' ≤ v) && decide (v ≤ hi'))) = false := LM.out v
                rw [HB.out] at l4
                have l5 : (decide (lo ≤ v) && decide (v ≤ hi) || (decide (lo' ≤ v) && decide (v ≤ hi'))) = true → hasS vh v = true := LH.out.2 v
                rw [HO.out] at l5
                clear HB HO
                have KM := Lib.hid (fun w => CS.out vm v w)
                have KH := Lib.hid (fun w => CS.out vh v w)
                have HL := Lib.hid l5
                clear l5 LM LH CS
                cases one
                all_goals (try (have l6 := HL.out rfl; rw [l6] at KH; clear l6))
                all_goals (clear HL)
                all_goals (subst l4)
                all_goals
                  go_wp2_with (go_at_call 17; (first | (with_reducible refine (KM.out _).mono ?_) | (with_reducible refine (KH.out _).mono ?_)); rintro e w8 ⟨rfl, hb8⟩; have HM := Lib.hid (HM.out.step hb8); have HN2 := Lib.hid (HN2.out.step hb8); have i2 := cell_step i2 hb8; have i3 := cell_step i3 hb8)
                  go_roundw
                  case rel =>
                    refine ⟨k + 1, by omega, ?_, ?_, ?_⟩
                    · go_num
                    · with_reducible exact HM.out
                    · with_reducible exact HN2
                  case measure => (simp [intOf]; omega)
          · clear LM LH CS
            go_wp2_with (go_at_call 18; refine (works_any _).mono ?_; rintro e w8 ⟨rfl, hb8⟩)
            go_ret
            exact ⟨rfl, (by repeat' (first | exact Below.refl _ _ | assumption | apply bDrewN | apply bDrew | apply bAlloc | (refine bSet ?_ ?_ _) | (refine bStep ?_ (by assumption)) | omega | (simp <;> omega)))⟩

end Go.Proofs.Ytjnllfebeeiilaa
