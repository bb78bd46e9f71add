/-
  Blend of the reference.
-/
import Derived.Test.YtkldlmbccdfjdaaBa
import Derived.Test.YtkldlmbccdfjdaaAz
set_option linter.unusedSimpArgs false
set_option linter.unusedVariables false
namespace Go.Proofs.Ytkldlmbccdfjdaa
open Go.RowKit
theorem two_boxes {w : World} {o1 o2 : Obj} : ((w.alloc o1).alloc o2).heap[w.heap.size]? = some o1 ∧ ((w.alloc o1).alloc o2).heap[w.heap.size + 1]? = some o2 := by
  refine ⟨blk_alloc (blk_new w o1), ?_⟩
  have := blk_new (w.alloc o1) o2
  simpa using this
theorem three_boxes {w : World} {o1 o2 o3 : Obj} : (((w.alloc o1).alloc o2).alloc o3).heap[w.heap.size]? = some o1 ∧ (((w.alloc o1).alloc o2).alloc o3).heap[w.heap.size + 1]? = some o2 ∧ (((w.alloc o1).alloc o2).alloc o3).heap[w.heap.size + 2]? = some o3 := by
  refine ⟨blk_alloc (two_boxes.1), blk_alloc (two_boxes.2), ?_⟩
  have := blk_new ((w.alloc o1).alloc o2) o3
  simpa using this
set_option maxHeartbeats 2000000 in
set_option maxRecDepth 20000 in
theorem Rcurves_any (pa pb pc pd : Option Addr) (ca cb cc cd : Nat) (xs ys us vs : List Int) (w : World)
    (hx : xs.length ≤ 1000000) (hy : ys.length ≤ 1000000) (hu : us.length ≤ 1000000) (hv : vs.length ≤ 1000000) (hA : IntAt pa xs w) (hB : IntAt pb ys w) (hC : IntAt pc us w) (hD : IntAt pd vs w) :
    Calls Try.prog 47 #[.agg #[.slice pa xs.length ca, .slice pb ys.length cb], .agg #[.slice pc us.length cc, .slice pd vs.length cd]] w fun e w' => e = .returned (.int .i64 (curvesS xs ys us vs)) ∧ Below w.heap.size w w' := by
  have CE := Lib.hid (fun w h1 h2 => RCheckCurve_any pa pb ca cb xs ys w hx hy h1 h2)
  have CF := Lib.hid (fun w h1 h2 => RCheckCurve_any pc pd cc cd us vs w hu hv h1 h2)
  have HA := Lib.hid hA
  have HB := Lib.hid hB
  have HC := Lib.hid hC
  have HD := Lib.hid hD
  clear hA hB hC hD hx hy hu hv
  unfold curvesS
  have vE := checkC_vals xs ys
  have vF := checkC_vals us vs
  generalize checkC xs ys = E at *
  generalize checkC us vs = F at *
  have BX := Lib.hid (two_boxes (w := w) (o1 := .cells #[.slice pa xs.length ca, .slice pb ys.length cb] 24) (o2 := .cells #[.slice pc us.length cc, .slice pd vs.length cd] 24))
  rcases vE with rfl | rfl | rfl <;> rcases vF with rfl | rfl | rfl
  all_goals
    go_enter Try.func47, Try.ntmps47
    go_wp2_with (first
      | (go_at_call 41; (with_reducible refine (CE.out _ (HA.out.step (by repeat' (first | exact Below.refl _ _ | assumption | apply bDrewN | apply bDrew | apply bAlloc | (refine bSet ?_ ?_ _) | (refine bStep ?_ (by assumption)) | omega | (simp <;> omega)))) (HB.out.step (by repeat' (first | exact Below.refl _ _ | assumption | apply bDrewN | apply bDrew | apply bAlloc | (refine bSet ?_ ?_ _) | (refine bStep ?_ (by assumption)) | omega | (simp <;> omega))))).mono ?_); rintro e w1 ⟨rfl, hb1⟩; obtain ⟨BX1, BX2⟩ := BX.out; replace BX := Lib.hid (And.intro (blk_step BX1 hb1) (blk_step BX2 hb1)); clear BX1 BX2; obtain ⟨c0, c1, k0⟩ := cv_open BX.out.1; obtain ⟨c2, c3, k1⟩ := cv_open BX.out.2)
      | (go_at_call 41; (with_reducible refine (CF.out _ (HC.out.step (by repeat' (first | exact Below.refl _ _ | assumption | apply bDrewN | apply bDrew | apply bAlloc | (refine bSet ?_ ?_ _) | (refine bStep ?_ (by assumption)) | omega | (simp <;> omega)))) (HD.out.step (by repeat' (first | exact Below.refl _ _ | assumption | apply bDrewN | apply bDrew | apply bAlloc | (refine bSet ?_ ?_ _) | (refine bStep ?_ (by assumption)) | omega | (simp <;> omega))))).mono ?_); rintro e w1 ⟨rfl, hb2⟩; obtain ⟨BX1, BX2⟩ := BX.out; replace BX := Lib.hid (And.intro (blk_step BX1 hb2) (blk_step BX2 hb2)); clear BX1 BX2; obtain ⟨c0, c1, k0⟩ := cv_open BX.out.1; obtain ⟨c2, c3, k1⟩ := cv_open BX.out.2))
    go_ret
    exact ⟨by simp, (by repeat' (first | exact Below.refl _ _ | assumption | apply bDrewN | apply bDrew | apply bAlloc | (refine bSet ?_ ?_ _) | (refine bStep ?_ (by assumption)) | omega | (simp <;> omega)))⟩

/-- A curve that is being made: its first row stays, its second one grows. -/
structure YQ (w : World) (L : List (Nat × Obj)) (R C B : Nat) (vx vy : Value) (ys : List Int) (W : World) : Prop where
  hB : w.heap.size ≤ R ∧ R < B ∧ w.heap.size ≤ C ∧ C < B ∧ R ≠ C
  hL : ∀ p ∈ L, p.1 < B ∧ p.1 ≠ R ∧ p.1 ≠ C
  bel : Below w.heap.size w W
  sz : B ≤ W.heap.size
  rb : W.heap[R]? = some (.cells #[.slice none 0 0, .slice none 0 0] 24)
  cb : W.heap[C]? = some (.cells #[vx, vy] 24)
  sb : ∀ p ∈ L, W.heap[p.1]? = some p.2
  oy : IntOwn W B vy ys
section
variable {w W w2 : World} {L : List (Nat × Obj)} {R C B : Nat} {vx vy v1 v2 : Value} {ys : List Int} {x : Int} {b1 b2 : Bool}
theorem YQ.start (h : YQ w L R C B vx vy ys W) : StQ w L R C B #[vx, vy] vy ys (.slice none 0 0) [] x false false v1 v2 W.drew :=
  ⟨h.hB, h.hL, h.bel.drew, h.sz, h.rb, h.cb, h.sb, IntOwn.nil, Far.nil.symm, fun _ => h.oy, (fun e => by cases e), (fun e => by cases e)⟩
theorem YQ.fin (h : StQ w L R C B #[vx, vy] vy ys (.slice none 0 0) [] x true true v1 v2 W) : YQ w L R C B vx v2 (ys ++ [x]) (W.setCell ⟨C, 1, none⟩ v2) := by
  have hB := h.hB
  exact ⟨h.hB, h.hL, h.bel.setCell (by show w.heap.size ≤ C; omega) _, by simpa using h.sz, blk_set_other h.rb (by show R ≠ C; omega), (blk_set h.cb).trans rfl, fun p hp => blk_set_other (h.sb p hp) (by show p.1 ≠ C; exact (h.hL p hp).2.2), own_keep (h.app rfl).1 (by omega)⟩
theorem YQ.open_ (h : YQ w L R C B vx vy ys W) : W.cell? ⟨R, 0, none⟩ = some (.slice none 0 0) ∧ W.cell? ⟨R, 1, none⟩ = some (.slice none 0 0) ∧ W.frozen? ⟨R, 0, none⟩ = false ∧ W.frozen? ⟨R, 1, none⟩ = false ∧
    W.cell? ⟨C, 0, none⟩ = some vx ∧ W.cell? ⟨C, 1, none⟩ = some vy ∧ W.frozen? ⟨C, 0, none⟩ = false ∧ W.frozen? ⟨C, 1, none⟩ = false ∧ C < W.heap.size ∧ R < W.heap.size :=
  ⟨blk_cell h.rb rfl, blk_cell h.rb rfl, blk_free h.rb, blk_free h.rb, blk_cell h.cb rfl, blk_cell h.cb rfl, blk_free h.cb, blk_free h.cb, blk_lt h.cb, blk_lt h.rb⟩
theorem YQ.row {v : Value} {b o : Nat} (h : YQ w L R C B vx vy ys W) (hc : w.cell? ⟨b, o, none⟩ = some v) : W.cell? ⟨b, o, none⟩ = some v := (h.bel.cell (p := ⟨b, o, none⟩) (cell_lt hc)).trans hc
theorem YQ.lim (h : YQ w L R C B vx vy ys W) : w.heap.size ≤ R ∧ R < B ∧ C < B ∧ B ≤ W.heap.size ∧ C < W.heap.size ∧ R < W.heap.size := ⟨h.hB.1, h.hB.2.1, h.hB.2.2.2.1, h.sz, by have := h.hB; have := h.sz; omega, by have := h.hB; have := h.sz; omega⟩
end
theorem IntAt.of_obj {b o : Nat} {xs : List Int} {W W' : World} {ob : Obj} (h : IntAt (some ⟨b, o, none⟩) xs W) (h1 : W.heap[b]? = some ob) (h2 : W'.heap[b]? = some ob) : IntAt (some ⟨b, o, none⟩) xs W' := fun hn => by
  obtain ⟨b', o', e, -, hc⟩ := h hn
  cases e
  exact ⟨_, _, rfl, blk_lt h2, fun k hk => (World.cell?_of_block (by show W'.heap[b]? = W.heap[b]?; rw [h1, h2])).trans (hc k hk)⟩
theorem blend_more {ys vs : List Int} {n d : Int} {k : Nat} (h : k < ys.length) : (blendRow ys vs n d).take (k + 1) = (blendRow ys vs n d).take k ++ [bmix (ys.getD k 0) (vs.getD k 0) n d] := by
  have h2 : k < (blendRow ys vs n d).length := by rw [blendRow_len]; exact h
  rw [take_more h2, blendRow_at h]
end Go.Proofs.Ytkldlmbccdfjdaa
