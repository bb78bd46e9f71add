/-
  Blend, whole; the results of Move and Blend opened; SameCurve at equal curves.
-/
import Derived.Test.YtkldlmbccdfjdaaBe
import Derived.Test.YtkldlmbccdfjdaaBc
import Derived.Test.YtkldlmbccdfjdaaWk
set_option linter.unusedSimpArgs false
set_option linter.unusedVariables false
namespace Go.Proofs.Ytkldlmbccdfjdaa
open Go.RowKit
theorem Blend_any (pa pb pc pd : Option Addr) (ca cb cc cd : Nat) (xs ys us vs : List Int) (n k : Int) (w : World)
    (hx : xs.length ≤ 1000000) (hy : ys.length ≤ 1000000) (hu : us.length ≤ 1000000) (hv : vs.length ≤ 1000000) (hA : IntAt pa xs w) (hB : IntAt pb ys w) (hC : IntAt pc us w) (hD : IntAt pd vs w) :
    Calls Try.prog 10 #[.agg #[.slice pa xs.length ca, .slice pb ys.length cb], .agg #[.slice pc us.length cc, .slice pd vs.length cd], .int .i64 n, .int .i64 k] w fun e w' => ∃ v u, e = .returned (.tuple #[.agg #[v, u], .int .i64 (blendS xs ys us vs n k).2]) ∧ CuOut w.heap.size v u (blendS xs ys us vs n k).1.1 (blendS xs ys us vs n k).1.2 w' ∧ Below w.heap.size w w' := by
  by_cases h : checkC xs ys = 0 ∧ checkC us vs = 0
  · exact Blend_fine pa pb pc pd ca cb cc cd xs ys us vs n k w hx hy hu hv hA hB hC hD h.1 h.2
  · have hb : checkC xs ys ≠ 0 ∨ checkC us vs ≠ 0 := by
      by_cases h1 : checkC xs ys = 0
      · exact Or.inr fun h2 => h ⟨h1, h2⟩
      · exact Or.inl h1
    have hc : curvesS xs ys us vs = if checkC xs ys = 6 ∨ checkC us vs = 6 then 6 else 2 := by
      unfold curvesS
      split
      · rfl
      · first | rfl | rw [if_pos hb]
    have hn : curvesS xs ys us vs ≠ 0 := by rw [hc]; split <;> decide
    have hR : blendS xs ys us vs n k = (([], []), if checkC xs ys = 6 ∨ checkC us vs = 6 then 6 else 2) := by unfold blendS; rw [if_pos hn, hc]
    rw [hR]
    refine (Blend_bad pa pb pc pd ca cb cc cd xs ys us vs _ _ n k w ⟨checkC_vals xs ys, checkC_vals us vs⟩ hb hx hy hu hv hA hB hC hD rfl rfl).mono ?_
    rintro e w' ⟨rfl, h2⟩
    exact ⟨_, _, rfl, CuOut.nil, h2⟩
theorem CuOut.open_ {B : Nat} {v u : Value} {X Y : List Int} {W : World} (h : CuOut B v u X Y W) : ∃ a b c d, v = .slice a X.length c ∧ u = .slice b Y.length d ∧ CuOut B (.slice a X.length c) (.slice b Y.length d) X Y W := by
  rcases h with ⟨rfl, rfl, rfl, rfl⟩ | ⟨gx, cx, gy, cy, rfl, rfl, q⟩
  · exact ⟨none, none, 0, 0, rfl, rfl, CuOut.nil⟩
  · exact ⟨_, _, _, _, rfl, rfl, Or.inr ⟨gx, cx, gy, cy, rfl, rfl, q⟩⟩
theorem CuOut.ats {B : Nat} {a b : Option Addr} {c d : Nat} {X Y : List Int} {W : World} (h : CuOut B (.slice a X.length c) (.slice b Y.length d) X Y W) : IntAt a X W ∧ IntAt b Y W := by
  rcases h with ⟨-, -, rfl, rfl⟩ | ⟨gx, cx, gy, cy, e1, e2, -, -, -, h1, h2⟩
  · exact ⟨fun h => absurd rfl h, fun h => absurd rfl h⟩
  · simp only [Value.slice.injEq] at e1 e2
    obtain ⟨rfl, -, rfl⟩ := e1
    obtain ⟨rfl, -, rfl⟩ := e2
    exact ⟨h1.at_, h2.at_⟩
theorem CuOut.step {B : Nat} {v u : Value} {X Y : List Int} {W W2 : World} (h : CuOut B v u X Y W) (hb : Below W.heap.size W W2) : CuOut B v u X Y W2 := by
  rcases h with ⟨rfl, rfl, rfl, rfl⟩ | ⟨gx, cx, gy, cy, rfl, rfl, q1, q2, q3, q4, q5⟩
  · exact CuOut.nil
  · exact Or.inr ⟨gx, cx, gy, cy, rfl, rfl, q1, q2, q3, q4.step hb, q5.step hb⟩
/-- A curve that is overwritten, number by number: what it was made of still stands, whatever its numbers are. -/
theorem CuOut.two {B : Nat} {a b : Option Addr} {c d : Nat} {X Y : List Int} {W : World} (h : CuOut B (.slice a X.length c) (.slice b Y.length d) X Y W) (hn : X ≠ []) : ∃ gx gy, a = some ⟨gx, 0, none⟩ ∧ b = some ⟨gy, 0, none⟩ ∧ B ≤ gx ∧ B ≤ gy ∧ gx ≠ gy ∧ IntBlk W gx X ∧ IntBlk W gy Y := by
  rcases h with ⟨-, -, rfl, rfl⟩ | ⟨gx, cx, gy, cy, e1, e2, q⟩
  · exact absurd rfl hn
  · simp only [Value.slice.injEq] at e1 e2
    obtain ⟨rfl, -, rfl⟩ := e1
    obtain ⟨rfl, -, rfl⟩ := e2
    exact ⟨gx, gy, rfl, rfl, q⟩
theorem Same_eqB (a b : Option Addr) (ca cb : Nat) (l : List Int) (w : World) (hl : l.length ≤ 1000000) (hA : IntAt a l w) (hB : IntAt b l w) :
    Calls Try.prog 43 #[.slice a l.length ca, .slice b l.length cb] w fun e w' => e = .returned (.bool true) ∧ Below w.heap.size w w' := by
  have h := SameI_row a b ca cb l l w hl hl hA hB
  rw [decide_eq_true rfl] at h
  exact h
set_option maxHeartbeats 1000000 in
set_option maxRecDepth 20000 in
theorem SameCurve_eqB (a b a' b' : Option Addr) (ca cb ca' cb' : Nat) (xs ys : List Int) (w : World) (hx : xs.length ≤ 1000000) (hy : ys.length ≤ 1000000) (hA : IntAt a xs w) (hB : IntAt b ys w) (hA' : IntAt a' xs w) (hB' : IntAt b' ys w) :
    Calls Try.prog 9 #[.agg #[.slice a xs.length ca, .slice b ys.length cb], .agg #[.slice a' xs.length ca', .slice b' ys.length cb']] w fun e w' => e = .returned (.bool true) ∧ Below w.heap.size w w' := by
  have SX := Lib.hid (fun W h1 h2 => Same_eqB a a' ca ca' xs W hx h1 h2)
  have SY := Lib.hid (fun W h1 h2 => Same_eqB b b' cb cb' ys W hy h1 h2)
  have HA := Lib.hid hA
  have HB := Lib.hid hB
  have HA' := Lib.hid hA'
  have HB' := Lib.hid hB'
  clear hA hB hA' hB' hx hy
  have BX := Lib.hid (two_boxes (w := w) (o1 := .cells #[.slice a xs.length ca, .slice b ys.length cb] 24) (o2 := .cells #[.slice a' xs.length ca', .slice b' ys.length cb'] 24))
  go_enter Try.func9, Try.ntmps9
  go_wp2_with (first
    | (go_at_call 43; (with_reducible refine (SX.out _ (HA.out.step (by repeat' (first | exact Below.refl _ _ | assumption | apply bDrewN | apply bDrew | apply bAlloc | (refine bSet ?_ ?_ _) | (refine bStep ?_ (by assumption)) | omega | (simp <;> omega)))) (HA'.out.step (by repeat' (first | exact Below.refl _ _ | assumption | apply bDrewN | apply bDrew | apply bAlloc | (refine bSet ?_ ?_ _) | (refine bStep ?_ (by assumption)) | omega | (simp <;> omega))))).mono ?_); rintro e w1 ⟨rfl, hb1⟩; obtain ⟨c0, c1, k0⟩ := cv_open (blk_step BX.out.1 hb1); obtain ⟨d0, d1, k1⟩ := cv_open (blk_step BX.out.2 hb1))
    | (go_at_call 43; (with_reducible refine (SY.out _ (HB.out.step (by repeat' (first | exact Below.refl _ _ | assumption | apply bDrewN | apply bDrew | apply bAlloc | (refine bSet ?_ ?_ _) | (refine bStep ?_ (by assumption)) | omega | (simp <;> omega)))) (HB'.out.step (by repeat' (first | exact Below.refl _ _ | assumption | apply bDrewN | apply bDrew | apply bAlloc | (refine bSet ?_ ?_ _) | (refine bStep ?_ (by assumption)) | omega | (simp <;> omega))))).mono ?_); rintro e w2 ⟨rfl, hb2⟩))
  go_ret
  exact ⟨rfl, (by repeat' (first | exact Below.refl _ _ | assumption | apply bDrewN | apply bDrew | apply bAlloc | (refine bSet ?_ ?_ _) | (refine bStep ?_ (by assumption)) | omega | (simp <;> omega)))⟩
/-- A curve that is being overwritten. -/
structure ZSt (w0 : World) (bz : Nat) (a b : Option Addr) (c d n : Nat) (W : World) : Prop where
  bel : Below w0.heap.size w0 W
  bx : W.heap[bz]? = some (.cells #[.slice a n c, .slice b n d] 24)
  rows : 0 < n → ∃ gx gy zs ts, a = some ⟨gx, 0, none⟩ ∧ b = some ⟨gy, 0, none⟩ ∧ w0.heap.size ≤ gx ∧ w0.heap.size ≤ gy ∧ gx ≠ gy ∧ gx ≠ bz ∧ gy ≠ bz ∧ zs.length = n ∧ ts.length = n ∧ IntBlk W gx zs ∧ IntBlk W gy ts
theorem ZSt.start {w0 w1 W : World} {bz : Nat} {a b : Option Addr} {c d : Nat} {X Y : List Int} (h : CuOut w0.heap.size (.slice a X.length c) (.slice b Y.length d) X Y w1) (hl : X.length = Y.length) (hz : w1.heap.size ≤ bz) (hb : Below w0.heap.size w0 w1) (h2 : Below w1.heap.size w1 W)
    (hx : W.heap[bz]? = some (.cells #[.slice a X.length c, .slice b Y.length d] 24)) : ZSt w0 bz a b c d X.length W := by
  refine ⟨bStep hb h2, by rw [← hl] at hx; exact hx, fun h0 => ?_⟩
  obtain ⟨gx, gy, e1, e2, q1, q2, q3, q4, q5⟩ := h.two (fun e => by rw [e] at h0; simp at h0)
  have l1 : gx < w1.heap.size := by obtain ⟨_, _, k, _⟩ := q4; exact blk_lt k
  have l2 : gy < w1.heap.size := by obtain ⟨_, _, k, _⟩ := q5; exact blk_lt k
  exact ⟨gx, gy, X, Y, e1, e2, q1, q2, q3, by omega, by omega, rfl, hl.symm, q4.step h2, q5.step h2⟩
theorem ZSt.next {w0 W : World} {bz : Nat} {gx gy : Nat} {c d n : Nat} {j : Nat} {x y : Int} (h : ZSt w0 bz (some ⟨gx, 0, none⟩) (some ⟨gy, 0, none⟩) c d n W) (hj : j < n) : ZSt w0 bz (some ⟨gx, 0, none⟩) (some ⟨gy, 0, none⟩) c d n ((W.setCell ⟨gx, j, none⟩ (.int .i64 x)).setCell ⟨gy, j, none⟩ (.int .i64 y)) := by
  obtain ⟨gx', gy', zs, ts, e1, e2, q1, q2, q3, q4, q5, q6, q7, q8, q9⟩ := h.rows (by omega)
  cases e1
  cases e2
  refine ⟨(h.bel.setCell q1 _).setCell q2 _, blk_set_other (blk_set_other h.bx (Ne.symm q4)) (Ne.symm q5), fun _ => ⟨gx, gy, zs.set j x, ts.set j y, rfl, rfl, q1, q2, q3, q4, q5, by simpa using q6, by simpa using q7, (q8.set (by omega)).far q3, (q9.far (Ne.symm q3)).set (by omega)⟩⟩
theorem ZSt.cells {w0 W : World} {bz : Nat} {a b : Option Addr} {c d n : Nat} {j : Nat} (h : ZSt w0 bz a b c d n W) (hj : j < n) : ∃ gx gy u v, a = some ⟨gx, 0, none⟩ ∧ b = some ⟨gy, 0, none⟩ ∧ gx ≠ gy ∧ gx ≠ bz ∧ gy ≠ bz ∧ W.cell? ⟨gx, j, none⟩ = some (.int .i64 u) ∧ W.cell? ⟨gy, j, none⟩ = some (.int .i64 v) ∧ W.frozen? ⟨gx, j, none⟩ = false ∧ W.frozen? ⟨gy, j, none⟩ = false := by
  obtain ⟨gx, gy, zs, ts, e1, e2, q1, q2, q3, q4, q5, q6, q7, q8, q9⟩ := h.rows (by omega)
  obtain ⟨k1, k2⟩ := q8.cells (k := j) (by omega)
  obtain ⟨k3, k4⟩ := q9.cells (k := j) (by omega)
  exact ⟨gx, gy, _, _, e1, e2, q3, q4, q5, k1, k3, k2, k4⟩
end Go.Proofs.Ytkldlmbccdfjdaa
