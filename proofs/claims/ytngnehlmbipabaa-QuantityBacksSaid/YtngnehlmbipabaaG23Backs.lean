/-
  The value of a curve: the walk.
-/
import Derived.Test.YtngnehlmbipabaaG19Backs
import Derived.Test.YtngnehlmbipabaaG10Backs
import Derived.Test.YtngnehlmbipabaaG20Backs
import Derived.Test.YtngnehlmbipabaaG21Backs
import Derived.Test.YtngnehlmbipabaaG22Backs
set_option linter.unusedSimpArgs false
set_option linter.unusedVariables false
namespace Go.Proofs.Ytngnehlmbipabaa
open Go.RowKit Go.Shelf
attribute [local go_sem] Oper.semAt_some
theorem three_boxesV {w : World} {o1 o2 o3 : Obj} : (((w.alloc o1).alloc o2).alloc o3).heap[w.heap.size]? = some o1 ∧ (((w.alloc o1).alloc o2).alloc o3).heap[w.heap.size + 1]? = some o2 ∧ (((w.alloc o1).alloc o2).alloc o3).heap[w.heap.size + 2]? = some o3 := by
  have h2 : ((w.alloc o1).alloc o2).heap[w.heap.size + 1]? = some o2 := by
    have := blk_new (w.alloc o1) o2
    simpa using this
  refine ⟨blk_alloc (blk_alloc (blk_new w o1)), blk_alloc h2, ?_⟩
  have := blk_new ((w.alloc o1).alloc o2) o3
  simpa using this
theorem cv_openS {b : Nat} {x y : Value} {W : World} {T : TypeId} (h : W.heap[b]? = some (.cells #[x, y] T)) : W.cell? ⟨b, 0, none⟩ = some x ∧ W.cell? ⟨b, 1, none⟩ = some y ∧ W.frozen? ⟨b, 0, none⟩ = false ∧ W.frozen? ⟨b, 1, none⟩ = false ∧ b < W.heap.size :=
  ⟨blk_cell h rfl, blk_cell h rfl, blk_free h, blk_free h, blk_lt h⟩
theorem one_open {b : Nat} {x : Value} {W : World} {T : TypeId} (h : W.heap[b]? = some (.cells #[x] T)) : W.cell? ⟨b, 0, none⟩ = some x ∧ b < W.heap.size := ⟨blk_cell h rfl, blk_lt h⟩
/-- A new box with a span of zeros. -/
structure NBx (w0 : World) (b : Bool) (s : Value) (W : World) : Prop where
  bel : Below w0.heap.size w0 W
  bx : b = true → ∃ r, s = .pointer (some ⟨r, 0, none⟩) ∧ w0.heap.size ≤ r ∧ W.heap[r]? = some (.cells #[.int .i64 0, .int .i64 0] 40)
theorem NBx.step {w0 W w2 : World} {b : Bool} {s : Value} (h : NBx w0 b s W) (hb : Below W.heap.size W w2) : NBx w0 b s w2 :=
  ⟨bStep h.bel hb, fun e => by obtain ⟨r, q1, q2, q3⟩ := h.bx e; exact ⟨r, q1, q2, blk_step q3 hb⟩⟩
theorem NBx.mk0 {w0 W : World} {s : Value} (h : NBx w0 false s W) : NBx w0 true (.pointer (some ⟨W.heap.size, 0, none⟩)) (W.alloc (.cells #[.int .i64 0, .int .i64 0] 40)) :=
  ⟨bAlloc h.bel _, fun _ => ⟨_, rfl, h.bel.size, by simpa using blk_new W _⟩⟩
/-- What stands while the pieces are gone through. -/
structure VQ (w : World) (sx sy : Value) (x : Int) (r : Nat) (o : Int × Int) (W : World) : Prop where
  bel : Below w.heap.size w W
  cb : W.heap[w.heap.size]? = some (.cells #[sx, sy] 24)
  xb : W.heap[w.heap.size + 1]? = some (.cells #[.int .i64 x] 2)
  zb : W.heap[w.heap.size + 2]? = some (.cells #[.int .i64 0, .int .i64 0] 40)
  ob : W.heap[r]? = some (.cells #[.int .i64 o.1, .int .i64 o.2] 40)
  lt : w.heap.size + 2 < r
def outV (xs ys : List Int) (x y0 : Int) (pre : List Nat) : Int × Int := match pre.getLast? with | none => (y0, y0) | some k => vAt xs ys x k
theorem outV_app {xs ys : List Int} {x y0 : Int} {pre : List Nat} {k : Nat} : outV xs ys x y0 (pre ++ [k]) = vAt xs ys x k := by simp [outV]
theorem outV_range {xs ys : List Int} {x : Int} {k : Nat} (h : ∀ j, j < k → xs.getD j 0 ≤ x) : outV xs ys x (ys.getD 0 0) (List.range k) = vS xs ys x k := by
  cases k with
  | zero => rfl
  | succ k =>
    rw [List.range_succ, outV_app]
    have := h k (by omega)
    rw [show vS xs ys x (k + 1) = if x < xs.getD k 0 then vS xs ys x k else vAt xs ys x k from rfl, if_neg (by omega)]
theorem blk_allocK {W : World} {o : Obj} {b : Nat} (h : b < W.heap.size) : (W.alloc o).heap[b]? = W.heap[b]? := ((Below.refl W.heap.size W).alloc (Nat.le_refl _) o).block b h
theorem keeps_below {W W' : World} (h : Below W.heap.size W W') : KeepsOthers W W' := ⟨h.size, fun k o hk _ => (h.block k (Array.getElem?_eq_some_iff.1 hk).1).trans hk⟩
/-- What the walk over the pieces keeps. -/
structure VI (w : World) (x : Int) (r : Nat) (o : Int × Int) (W : World) : Prop where
  x0 : W.cell? ⟨w.heap.size + 1, 0, none⟩ = some (.int .i64 x)
  o0 : W.cell? ⟨r, 0, none⟩ = some (.int .i64 o.1)
  o1 : W.cell? ⟨r, 1, none⟩ = some (.int .i64 o.2)
  fo0 : W.frozen? ⟨r, 0, none⟩ = false
  fo1 : W.frozen? ⟨r, 1, none⟩ = false
  z0 : W.cell? ⟨w.heap.size + 2, 0, none⟩ = some (.int .i64 0)
  z1 : W.cell? ⟨w.heap.size + 2, 1, none⟩ = some (.int .i64 0)
  fz0 : W.frozen? ⟨w.heap.size + 2, 0, none⟩ = false
  fz1 : W.frozen? ⟨w.heap.size + 2, 1, none⟩ = false
theorem VI.kept {w A B : World} {x : Int} {r : Nat} {o : Int × Int} {row : Option Nat} (s : VI w x r o A) (hg : A.grownBy B row) (hr : ∀ q, row = some q → ∃ ob : Obj, A.heap[q]? = some ob ∧ ob.isCells = false) : VI w x r o B :=
  ⟨cell_kept s.x0 hg hr, cell_kept s.o0 hg hr, cell_kept s.o1 hg hr, (frozen_kept s.o0 hg hr).trans s.fo0, (frozen_kept s.o1 hg hr).trans s.fo1,
   cell_kept s.z0 hg hr, cell_kept s.z1 hg hr, (frozen_kept s.z0 hg hr).trans s.fz0, (frozen_kept s.z1 hg hr).trans s.fz1⟩
theorem VI.step {w A B : World} {x : Int} {r : Nat} {o : Int × Int} (s : VI w x r o A) (hb : Below A.heap.size A B) : VI w x r o B :=
  ⟨cell_step s.x0 hb, cell_step s.o0 hb, cell_step s.o1 hb, free_step s.o0 s.fo0 hb, free_step s.o1 s.fo1 hb, cell_step s.z0 hb, cell_step s.z1 hb, free_step s.z0 s.fz0 hb, free_step s.z1 s.fz1 hb⟩
theorem VI.put {w A : World} {x : Int} {r : Nat} {o : Int × Int} (s : VI w x r o A) (hr : w.heap.size + 2 < r) (y z : Int) : VI w x r (y, z) ((A.setCell ⟨r, 0, none⟩ (.int .i64 y)).setCell ⟨r, 1, none⟩ (.int .i64 z)) := by
  have e1 := World.cell?_setCell_same' A ⟨r, 0, none⟩ (.int .i64 y) (by rw [s.o0]; rfl)
  have e3 : (A.setCell ⟨r, 0, none⟩ (.int .i64 y)).cell? ⟨r, 1, none⟩ = some (.int .i64 o.2) := (World.cell?_setCell_other _ _ _ _ (by simp)).trans s.o1
  have e2 := World.cell?_setCell_same' (A.setCell ⟨r, 0, none⟩ (.int .i64 y)) ⟨r, 1, none⟩ (.int .i64 z) (by rw [e3]; rfl)
  have far : ∀ (b q : Nat), b < r → ((A.setCell ⟨r, 0, none⟩ (.int .i64 y)).setCell ⟨r, 1, none⟩ (.int .i64 z)).cell? ⟨b, q, none⟩ = A.cell? ⟨b, q, none⟩ := fun b q hb => (World.cell?_setCell_other _ _ _ _ (by intro c; injection c with c1; omega)).trans (World.cell?_setCell_other _ _ _ _ (by intro c; injection c with c1; omega))
  have fr : ∀ (b q : Nat), ((A.setCell ⟨r, 0, none⟩ (.int .i64 y)).setCell ⟨r, 1, none⟩ (.int .i64 z)).frozen? ⟨b, q, none⟩ = A.frozen? ⟨b, q, none⟩ := fun b q => by simp
  exact ⟨(far _ _ (by omega)).trans s.x0, (World.cell?_setCell_other _ _ _ _ (by simp)).trans e1, e2, (fr _ _).trans s.fo0, (fr _ _).trans s.fo1, (far _ _ hr).trans s.z0, (far _ _ hr).trans s.z1, (fr _ _).trans s.fz0, (fr _ _).trans s.fz1⟩
theorem two_put {W : World} {b : Nat} {u v y z : Value} (h0 : W.cell? ⟨b, 0, none⟩ = some u) (h1 : W.cell? ⟨b, 1, none⟩ = some v) : ((W.setCell ⟨b, 0, none⟩ y).setCell ⟨b, 1, none⟩ z).cell? ⟨b, 0, none⟩ = some y ∧ ((W.setCell ⟨b, 0, none⟩ y).setCell ⟨b, 1, none⟩ z).cell? ⟨b, 1, none⟩ = some z := by
  have e1 := World.cell?_setCell_same' W ⟨b, 0, none⟩ y (by rw [h0]; rfl)
  have e3 : (W.setCell ⟨b, 0, none⟩ y).cell? ⟨b, 1, none⟩ = some v := (World.cell?_setCell_other _ _ _ _ (by simp)).trans h1
  exact ⟨(World.cell?_setCell_other _ _ _ _ (by simp)).trans e1, World.cell?_setCell_same' _ _ _ (by rw [e3]; rfl)⟩
theorem body_end {w w' : World} {x : Int} {r a b c : Nat} {o : Int × Int} {qq uu y z : Int} {sx : Value} (HH : VI w x r o w') (hk : w.heap.size + 2 < r) (hrl : r < w'.heap.size) (hbel : Below w.heap.size w w') (h0 : w.heap.size ≤ r) (ha : a ≠ r) (hb : b ≠ r) (hc : c ≠ r)
    (la : a < w'.heap.size) (lb : b < w'.heap.size) (lc : c < w'.heap.size) (hcell : w'.cell? ⟨a, 0, none⟩ = some sx) :
    let W := ((w'.setCell ⟨r, 0, none⟩ (.int .i64 y)).setCell ⟨r, 1, none⟩ (.int .i64 z)).alloc (.cells #[.int .i64 qq, .int .i64 uu] 40)
    KeepsOthers w' W ∧ Kp3 a b c w' W ∧ VI w x r (y, z) W ∧ W.cell? ⟨a, 0, none⟩ = some sx ∧ Below w.heap.size w W := by
  have e : ∀ q, q ≠ r → q < w'.heap.size → (((w'.setCell ⟨r, 0, none⟩ (.int .i64 y)).setCell ⟨r, 1, none⟩ (.int .i64 z)).alloc (.cells #[.int .i64 qq, .int .i64 uu] 40)).heap[q]? = w'.heap[q]? := fun q hq hl =>
    (blk_allocK (by simp; exact hl)).trans ((Below.heap_setCell _ _ _ _ hq).trans (Below.heap_setCell _ _ _ _ hq))
  refine ⟨(KeepsOthers.setCell _ _ _).trans ((KeepsOthers.setCell _ _ _).trans (KeepsOthers.alloc _ _)), ⟨e a ha la, e b hb lb, e c hc lc⟩, (HH.put hk y z).step bAl', ?_, ((hbel.setCell h0 _).setCell h0 _).alloc (by simp; exact hbel.size) _⟩
  exact (World.cell?_of_block (e a ha la)).trans hcell
set_option maxHeartbeats 8000000 in
set_option maxRecDepth 20000 in
theorem value_any (bu ou cu bv ov cv : Nat) (xs ys : List Int) (x : Int) (w : World) (hC : checkC xs ys = 0) (hx : isQ x = true) (hA : IntAt (some ⟨bu, ou, none⟩) xs w) (hB : IntAt (some ⟨bv, ov, none⟩) ys w) :
    Calls Try.prog 53 #[.agg #[(.slice (some ⟨bu, ou, none⟩) xs.length cu), (.slice (some ⟨bv, ov, none⟩) xs.length cv)], .int .i64 x] w fun e w' => e = .returned (.agg #[.int .i64 (valS xs ys x).1, .int .i64 (valS xs ys x).2]) ∧ Below w.heap.size w w' := by
  obtain ⟨⟨⟨p1, p2, p3, p4⟩, hris⟩, h64⟩ := checkC_good hC
  have hne : xs ≠ [] := fun e => by rw [e] at p2; simp at p2
  have hne2 : ys ≠ [] := fun e => by rw [e] at p1; rw [p1] at p2; simp at p2
  obtain ⟨_, _, e1, hbu, hcx⟩ := hA hne
  cases e1
  obtain ⟨_, _, e2, hbv, hcy⟩ := hB hne2
  cases e2
  have hq : ∀ k, -1099511627776 ≤ xs.getD k 0 ∧ xs.getD k 0 ≤ 1099511627776 ∧ -1099511627776 ≤ ys.getD k 0 ∧ ys.getD k 0 ≤ 1099511627776 := fun k => ⟨(allQ_getD p3 k).1, (allQ_getD p3 k).2, (allQ_getD p4 k).1, (allQ_getD p4 k).2⟩
  rw [← p1] at hcy
  have HQ := Lib.hid hq
  have HCX := Lib.hid hcx
  have HCY := Lib.hid hcy
  have HR := Lib.hid hris
  have bx := (isQ_iff _).1 hx
  have HP1 := Lib.hid p1
  have m1 : (xs.length : Int) - 1 = ((xs.length - 1 : Nat) : Int) := by omega
  have hlast := hcx (xs.length - 1) (by omega)
  have hlasty := hcy (xs.length - 1) (by omega)
  have hfirsty := hcy 0 (by omega)
  rw [Nat.add_zero] at hfirsty
  have m2 : xs.length - 1 < xs.length := by omega
  have m3 : ((xs.length - 1 : Nat) : Int) < xs.length := by omega
  have m4 : (0 : Int) < xs.length := by omega
  have BX := Lib.hid (three_boxesV (w := w) (o1 := .cells #[(.slice (some ⟨bu, ou, none⟩) xs.length cu), (.slice (some ⟨bv, ov, none⟩) xs.length cv)] 24) (o2 := .cells #[.int .i64 x] 2) (o3 := .cells #[.int .i64 0, .int .i64 0] 40))
  have kW : Below w.heap.size w (((w.alloc (.cells #[(.slice (some ⟨bu, ou, none⟩) xs.length cu), (.slice (some ⟨bv, ov, none⟩) xs.length cv)] 24)).alloc (.cells #[.int .i64 x] 2)).alloc (.cells #[.int .i64 0, .int .i64 0] 40)) := (by repeat' (first | exact Below.refl _ _ | assumption | apply bDrewN | apply bDrew | apply bAlloc | (refine bSet ?_ ?_ _) | (refine bStep ?_ (by assumption)) | omega | (simp <;> omega)))
  clear hq hcx hcy hris hA hB p1 p3 p4 hC hx hne hne2
  by_cases hl : xs.getD (xs.length - 1) 0 ≤ x
  · have hr : valS xs ys x = (ys.getD (xs.length - 1) 0, ys.getD (xs.length - 1) 0) := if_pos hl
    rw [hr]
    clear hr
    generalize hm : xs.length - 1 = m at *
    generalize xs.getD m 0 = xl at *
    generalize ys.getD m 0 = yl at *
    have g1 := (kW.cell (p := ⟨bu, ou + m, none⟩) hbu).trans hlast
    have g2 := (kW.cell (p := ⟨bv, ov + m, none⟩) hbv).trans hlasty
    obtain ⟨c0, c1, k0⟩ := cv_open BX.out.1
    obtain ⟨c2, k1⟩ := one_open BX.out.2.1
    obtain ⟨c3, c4, f3, f4, k2⟩ := cv_openS BX.out.2.2
    have ks : w.heap.size + 3 ≤ (((w.alloc (.cells #[(.slice (some ⟨bu, ou, none⟩) xs.length cu), (.slice (some ⟨bv, ov, none⟩) xs.length cv)] 24)).alloc (.cells #[.int .i64 x] 2)).alloc (.cells #[.int .i64 0, .int .i64 0] 40)).heap.size := by simp
    have lbv : bv < (((w.alloc (.cells #[(.slice (some ⟨bu, ou, none⟩) xs.length cu), (.slice (some ⟨bv, ov, none⟩) xs.length cv)] 24)).alloc (.cells #[.int .i64 x] 2)).alloc (.cells #[.int .i64 0, .int .i64 0] 40)).heap.size := by omega
    have lbu : bu < (((w.alloc (.cells #[(.slice (some ⟨bu, ou, none⟩) xs.length cu), (.slice (some ⟨bv, ov, none⟩) xs.length cv)] 24)).alloc (.cells #[.int .i64 x] 2)).alloc (.cells #[.int .i64 0, .int .i64 0] 40)).heap.size := by omega
    clear hfirsty HR HCX HCY
    go_enter Try.func53, Try.ntmps53
    go_wp2_with fail
    generalize (((w.alloc (.cells #[(.slice (some ⟨bu, ou, none⟩) xs.length cu), (.slice (some ⟨bv, ov, none⟩) xs.length cv)] 24)).alloc (.cells #[.int .i64 x] 2)).alloc (.cells #[.int .i64 0, .int .i64 0] 40)) = W3 at *
    go_quiet (fail)
    go_upto_region 3 with fail
    refine region_effs 11 8 [] [(none, []), (none, []), (none, []), (none, []), (none, []), (none, []), (none, []), (none, []), (none, []), (none, []), (none, [])] [(21, (.pointer (some ⟨w.heap.size, 1, none⟩))), (22, (.slice (some ⟨bv, ov, none⟩) xs.length cv)), (23, (.int .i64 (m : Int))), (24, (.pointer (some ⟨bv, ov + m, none⟩))), (25, (.int .i64 yl)), (26, (.pointer (some ⟨w.heap.size, 1, none⟩))), (27, (.slice (some ⟨bv, ov, none⟩) xs.length cv)), (28, (.int .i64 (m : Int))), (29, (.pointer (some ⟨bv, ov + m, none⟩))), (30, (.int .i64 yl)), (31, (.agg #[.int .i64 yl, .int .i64 yl]))] (fun bsE vsE W => Below W3.heap.size W3 W) (by kernel_rfl) (by kernel_rfl) rfl (by kernel_rfl) (by kernel_rfl) (by simp) (by rfl) ?h0 ?each ?tail
    case h0 =>
      intro vsE hlv
      obtain rfl := len_nil hlv
      exact (by repeat' (first | exact Below.refl _ _ | assumption | apply bDrewN | apply bDrew | apply bAlloc | (refine bSet ?_ ?_ _) | (refine bStep ?_ (by assumption)) | omega | (simp <;> omega)))
    case each =>
      simp only [List.take_succ_cons, List.take_zero, AllE]
      refine ⟨?_, ?_, ?_, ?_, ?_, ?_, ?_, ?_, ?_, ?_, ?_, trivial⟩
      · refine ⟨21, (.pointer (some ⟨w.heap.size, 1, none⟩)), rfl, by kernel_rfl, ?_⟩
        intro bsE vsE W hlb hlv hnd h
        obtain rfl := len_nil hlb
        obtain rfl := len_nil hlv
        replace h : Below W3.heap.size W3 W := h
        clear hnd
        have HST := Lib.hid h
        have u1 := (h.cell (p := ⟨w.heap.size, 1, none⟩) k0).trans c1; have u2 := (h.cell (p := ⟨bv, ov + m, none⟩) lbv).trans g2; have hs := h.size
        intro K Q hK
        simp only [putE, updAll, Act.put, List.setIfInBounds_toArray, List.set_cons_zero, List.set_cons_succ, List.set_nil] at hK ⊢
        go_wp2_with (fail)
        all_goals (first | exact hK _ (by first | exact h | exact bStep h (by repeat' (first | exact Below.refl _ _ | apply bDrewN | apply bDrew))) | exact (by first | exact h | exact bStep h (by repeat' (first | exact Below.refl _ _ | apply bDrewN | apply bDrew))))
      · refine ⟨22, (.slice (some ⟨bv, ov, none⟩) xs.length cv), rfl, by kernel_rfl, ?_⟩
        intro bsE vsE W hlb hlv hnd h
        obtain rfl := len_nil hlb
        obtain rfl := len_nil hlv
        replace h : Below W3.heap.size W3 W := h
        clear hnd
        have HST := Lib.hid h
        have u1 := (h.cell (p := ⟨w.heap.size, 1, none⟩) k0).trans c1; have u2 := (h.cell (p := ⟨bv, ov + m, none⟩) lbv).trans g2; have hs := h.size
        intro K Q hK
        simp only [putE, updAll, Act.put, List.setIfInBounds_toArray, List.set_cons_zero, List.set_cons_succ, List.set_nil] at hK ⊢
        go_wp2_with (fail)
        all_goals (first | exact hK _ (by first | exact h | exact bStep h (by repeat' (first | exact Below.refl _ _ | apply bDrewN | apply bDrew))) | exact (by first | exact h | exact bStep h (by repeat' (first | exact Below.refl _ _ | apply bDrewN | apply bDrew))))
      · refine ⟨23, (.int .i64 (m : Int)), rfl, by kernel_rfl, ?_⟩
        intro bsE vsE W hlb hlv hnd h
        obtain rfl := len_nil hlb
        obtain rfl := len_nil hlv
        replace h : Below W3.heap.size W3 W := h
        clear hnd
        have HST := Lib.hid h
        have u1 := (h.cell (p := ⟨w.heap.size, 1, none⟩) k0).trans c1; have u2 := (h.cell (p := ⟨bv, ov + m, none⟩) lbv).trans g2; have hs := h.size
        intro K Q hK
        simp only [putE, updAll, Act.put, List.setIfInBounds_toArray, List.set_cons_zero, List.set_cons_succ, List.set_nil] at hK ⊢
        go_wp2_with (fail)
        all_goals (first | exact hK _ (by first | exact h | exact bStep h (by repeat' (first | exact Below.refl _ _ | apply bDrewN | apply bDrew))) | exact (by first | exact h | exact bStep h (by repeat' (first | exact Below.refl _ _ | apply bDrewN | apply bDrew))))
      · refine ⟨24, (.pointer (some ⟨bv, ov + m, none⟩)), rfl, by kernel_rfl, ?_⟩
        intro bsE vsE W hlb hlv hnd h
        obtain rfl := len_nil hlb
        obtain rfl := len_nil hlv
        replace h : Below W3.heap.size W3 W := h
        clear hnd
        have HST := Lib.hid h
        have u1 := (h.cell (p := ⟨w.heap.size, 1, none⟩) k0).trans c1; have u2 := (h.cell (p := ⟨bv, ov + m, none⟩) lbv).trans g2; have hs := h.size
        intro K Q hK
        simp only [putE, updAll, Act.put, List.setIfInBounds_toArray, List.set_cons_zero, List.set_cons_succ, List.set_nil] at hK ⊢
        go_wp2_with (fail)
        all_goals (first | exact hK _ (by first | exact h | exact bStep h (by repeat' (first | exact Below.refl _ _ | apply bDrewN | apply bDrew))) | exact (by first | exact h | exact bStep h (by repeat' (first | exact Below.refl _ _ | apply bDrewN | apply bDrew))))
      · refine ⟨25, (.int .i64 yl), rfl, by kernel_rfl, ?_⟩
        intro bsE vsE W hlb hlv hnd h
        obtain rfl := len_nil hlb
        obtain rfl := len_nil hlv
        replace h : Below W3.heap.size W3 W := h
        clear hnd
        have HST := Lib.hid h
        have u1 := (h.cell (p := ⟨w.heap.size, 1, none⟩) k0).trans c1; have u2 := (h.cell (p := ⟨bv, ov + m, none⟩) lbv).trans g2; have hs := h.size
        intro K Q hK
        simp only [putE, updAll, Act.put, List.setIfInBounds_toArray, List.set_cons_zero, List.set_cons_succ, List.set_nil] at hK ⊢
        go_wp2_with (fail)
        all_goals (first | exact hK _ (by first | exact h | exact bStep h (by repeat' (first | exact Below.refl _ _ | apply bDrewN | apply bDrew))) | exact (by first | exact h | exact bStep h (by repeat' (first | exact Below.refl _ _ | apply bDrewN | apply bDrew))))
      · refine ⟨26, (.pointer (some ⟨w.heap.size, 1, none⟩)), rfl, by kernel_rfl, ?_⟩
        intro bsE vsE W hlb hlv hnd h
        obtain rfl := len_nil hlb
        obtain rfl := len_nil hlv
        replace h : Below W3.heap.size W3 W := h
        clear hnd
        have HST := Lib.hid h
        have u1 := (h.cell (p := ⟨w.heap.size, 1, none⟩) k0).trans c1; have u2 := (h.cell (p := ⟨bv, ov + m, none⟩) lbv).trans g2; have hs := h.size
        intro K Q hK
        simp only [putE, updAll, Act.put, List.setIfInBounds_toArray, List.set_cons_zero, List.set_cons_succ, List.set_nil] at hK ⊢
        go_wp2_with (fail)
        all_goals (first | exact hK _ (by first | exact h | exact bStep h (by repeat' (first | exact Below.refl _ _ | apply bDrewN | apply bDrew))) | exact (by first | exact h | exact bStep h (by repeat' (first | exact Below.refl _ _ | apply bDrewN | apply bDrew))))
      · refine ⟨27, (.slice (some ⟨bv, ov, none⟩) xs.length cv), rfl, by kernel_rfl, ?_⟩
        intro bsE vsE W hlb hlv hnd h
        obtain rfl := len_nil hlb
        obtain rfl := len_nil hlv
        replace h : Below W3.heap.size W3 W := h
        clear hnd
        have HST := Lib.hid h
        have u1 := (h.cell (p := ⟨w.heap.size, 1, none⟩) k0).trans c1; have u2 := (h.cell (p := ⟨bv, ov + m, none⟩) lbv).trans g2; have hs := h.size
        intro K Q hK
        simp only [putE, updAll, Act.put, List.setIfInBounds_toArray, List.set_cons_zero, List.set_cons_succ, List.set_nil] at hK ⊢
        go_wp2_with (fail)
        all_goals (first | exact hK _ (by first | exact h | exact bStep h (by repeat' (first | exact Below.refl _ _ | apply bDrewN | apply bDrew))) | exact (by first | exact h | exact bStep h (by repeat' (first | exact Below.refl _ _ | apply bDrewN | apply bDrew))))
      · refine ⟨28, (.int .i64 (m : Int)), rfl, by kernel_rfl, ?_⟩
        intro bsE vsE W hlb hlv hnd h
        obtain rfl := len_nil hlb
        obtain rfl := len_nil hlv
        replace h : Below W3.heap.size W3 W := h
        clear hnd
        have HST := Lib.hid h
        have u1 := (h.cell (p := ⟨w.heap.size, 1, none⟩) k0).trans c1; have u2 := (h.cell (p := ⟨bv, ov + m, none⟩) lbv).trans g2; have hs := h.size
        intro K Q hK
        simp only [putE, updAll, Act.put, List.setIfInBounds_toArray, List.set_cons_zero, List.set_cons_succ, List.set_nil] at hK ⊢
        go_wp2_with (fail)
        all_goals (first | exact hK _ (by first | exact h | exact bStep h (by repeat' (first | exact Below.refl _ _ | apply bDrewN | apply bDrew))) | exact (by first | exact h | exact bStep h (by repeat' (first | exact Below.refl _ _ | apply bDrewN | apply bDrew))))
      · refine ⟨29, (.pointer (some ⟨bv, ov + m, none⟩)), rfl, by kernel_rfl, ?_⟩
        intro bsE vsE W hlb hlv hnd h
        obtain rfl := len_nil hlb
        obtain rfl := len_nil hlv
        replace h : Below W3.heap.size W3 W := h
        clear hnd
        have HST := Lib.hid h
        have u1 := (h.cell (p := ⟨w.heap.size, 1, none⟩) k0).trans c1; have u2 := (h.cell (p := ⟨bv, ov + m, none⟩) lbv).trans g2; have hs := h.size
        intro K Q hK
        simp only [putE, updAll, Act.put, List.setIfInBounds_toArray, List.set_cons_zero, List.set_cons_succ, List.set_nil] at hK ⊢
        go_wp2_with (fail)
        all_goals (first | exact hK _ (by first | exact h | exact bStep h (by repeat' (first | exact Below.refl _ _ | apply bDrewN | apply bDrew))) | exact (by first | exact h | exact bStep h (by repeat' (first | exact Below.refl _ _ | apply bDrewN | apply bDrew))))
      · refine ⟨30, (.int .i64 yl), rfl, by kernel_rfl, ?_⟩
        intro bsE vsE W hlb hlv hnd h
        obtain rfl := len_nil hlb
        obtain rfl := len_nil hlv
        replace h : Below W3.heap.size W3 W := h
        clear hnd
        have HST := Lib.hid h
        have u1 := (h.cell (p := ⟨w.heap.size, 1, none⟩) k0).trans c1; have u2 := (h.cell (p := ⟨bv, ov + m, none⟩) lbv).trans g2; have hs := h.size
        intro K Q hK
        simp only [putE, updAll, Act.put, List.setIfInBounds_toArray, List.set_cons_zero, List.set_cons_succ, List.set_nil] at hK ⊢
        go_wp2_with (fail)
        all_goals (first | exact hK _ (by first | exact h | exact bStep h (by repeat' (first | exact Below.refl _ _ | apply bDrewN | apply bDrew))) | exact (by first | exact h | exact bStep h (by repeat' (first | exact Below.refl _ _ | apply bDrewN | apply bDrew))))
      · refine ⟨31, (.agg #[.int .i64 yl, .int .i64 yl]), rfl, by kernel_rfl, ?_⟩
        intro bsE vsE W hlb hlv hnd h
        obtain rfl := len_nil hlb
        obtain rfl := len_nil hlv
        replace h : Below W3.heap.size W3 W := h
        clear hnd
        have HST := Lib.hid h
        have u1 := (h.cell (p := ⟨w.heap.size, 1, none⟩) k0).trans c1; have u2 := (h.cell (p := ⟨bv, ov + m, none⟩) lbv).trans g2; have hs := h.size
        intro K Q hK
        simp only [putE, updAll, Act.put, List.setIfInBounds_toArray, List.set_cons_zero, List.set_cons_succ, List.set_nil] at hK ⊢
        go_wp2_with (fail)
        all_goals (first | exact hK _ (by first | exact h | exact bStep h (by repeat' (first | exact Below.refl _ _ | apply bDrewN | apply bDrew))) | exact (by first | exact h | exact bStep h (by repeat' (first | exact Below.refl _ _ | apply bDrewN | apply bDrew))))
    case tail =>
      intro vsE W hlv h
      obtain rfl := len_nil hlv
      replace h : Below W3.heap.size W3 W := h
      have HST := Lib.hid h
      have t0 := (h.cell (p := ⟨w.heap.size + 2, 0, none⟩) k2).trans c3
      have t1 := (h.cell (p := ⟨w.heap.size + 2, 1, none⟩) k2).trans c4
      have t2 := (h.frozen (p := ⟨w.heap.size + 2, 0, none⟩) k2).trans f3
      have t3 := (h.frozen (p := ⟨w.heap.size + 2, 1, none⟩) k2).trans f4
      have hbl := bStep kW h
      have hs := h.size
      refine wpOp_plain rfl rfl ?_
      simp only [putE, updAll, Act.put, List.setIfInBounds_toArray, List.set_cons_zero, List.set_cons_succ, List.set_nil]
      go_wp2_with fail
      exact bodyPost_ret (v := .agg #[.int .i64 yl, .int .i64 yl]) (by simp only [results, Try.results53]; go_simp) rfl ⟨rfl, (by repeat' (first | exact Below.refl _ _ | assumption | apply bDrewN | apply bDrew | apply bAlloc | (refine bSet ?_ ?_ _) | (refine bStep ?_ (by assumption)) | omega | (simp <;> omega)))⟩
  · have hr : valS xs ys x = vS xs ys x (xs.length - 1) := if_neg hl
    rw [hr]
    clear hr
    generalize hm : xs.length - 1 = m at *
    generalize xs.getD m 0 = xl at *
    generalize hy0 : ys.getD 0 0 = y0 at *
    have HY0 := Lib.hid hy0
    clear hy0
    have g1 := (kW.cell (p := ⟨bu, ou + m, none⟩) hbu).trans hlast
    have g2 := (kW.cell (p := ⟨bv, ov, none⟩) hbv).trans hfirsty
    obtain ⟨c0, c1, k0⟩ := cv_open BX.out.1
    obtain ⟨c2, k1⟩ := one_open BX.out.2.1
    obtain ⟨c3, c4, f3, f4, k2⟩ := cv_openS BX.out.2.2
    have ks : w.heap.size + 3 ≤ (((w.alloc (.cells #[(.slice (some ⟨bu, ou, none⟩) xs.length cu), (.slice (some ⟨bv, ov, none⟩) xs.length cv)] 24)).alloc (.cells #[.int .i64 x] 2)).alloc (.cells #[.int .i64 0, .int .i64 0] 40)).heap.size := by simp
    have lbv : bv < (((w.alloc (.cells #[(.slice (some ⟨bu, ou, none⟩) xs.length cu), (.slice (some ⟨bv, ov, none⟩) xs.length cv)] 24)).alloc (.cells #[.int .i64 x] 2)).alloc (.cells #[.int .i64 0, .int .i64 0] 40)).heap.size := by omega
    have lbu : bu < (((w.alloc (.cells #[(.slice (some ⟨bu, ou, none⟩) xs.length cu), (.slice (some ⟨bv, ov, none⟩) xs.length cv)] 24)).alloc (.cells #[.int .i64 x] 2)).alloc (.cells #[.int .i64 0, .int .i64 0] 40)).heap.size := by omega
    refine (callsIn_wide (n := 5)).1 ?_
    refine callsIn_of_wp_marks Try.func53 rfl trivial ?_ rfl
    simp only [Try.ntmps53, List.size_toArray, List.length_cons, List.length_nil, Nat.reduceAdd, Nat.reduceSub, Array.replicate_succ, Array.replicate_zero, List.push_toArray, List.append_toArray, List.nil_append, List.cons_append]
    refine wpIn_wide.2 ?_
    go_wp2_with fail
    generalize (((w.alloc (.cells #[(.slice (some ⟨bu, ou, none⟩) xs.length cu), (.slice (some ⟨bv, ov, none⟩) xs.length cv)] 24)).alloc (.cells #[.int .i64 x] 2)).alloc (.cells #[.int .i64 0, .int .i64 0] 40)) = W3 at *
    go_quiet (fail)
    go_upto_region 4 with fail
    go_cut [6] from 10 to 69 (fun s6 W => ∃ r : Nat, s6 = .pointer (some ⟨r, 0, none⟩) ∧ VQ w (.slice (some ⟨bu, ou, none⟩) xs.length cu) (.slice (some ⟨bv, ov, none⟩) xs.length cv) x r (y0, y0) W)
    case first =>
      refine region_effs 10 8 [(9, 6)] [(none, []), (none, []), (none, []), (none, []), (none, []), (none, []), (none, []), (none, []), (none, []), (some 0, [])] [(32, (.pointer (some ⟨w.heap.size, 1, none⟩))), (33, (.slice (some ⟨bv, ov, none⟩) xs.length cv)), (34, (.pointer (some ⟨bv, ov, none⟩))), (35, (.int .i64 y0)), (36, (.pointer (some ⟨w.heap.size, 1, none⟩))), (37, (.slice (some ⟨bv, ov, none⟩) xs.length cv)), (38, (.pointer (some ⟨bv, ov, none⟩))), (39, (.int .i64 y0)), (40, (.agg #[.int .i64 y0, .int .i64 y0]))] (fun bsE vsE W => NBx W3 (bsE.getD 0 false) (vsE.getD 0 undef) W) (by kernel_rfl) (by kernel_rfl) rfl (by kernel_rfl) (by kernel_rfl) (by simp) (by rfl) ?h0 ?each ?tail
      case h0 =>
        intro vsE hlv
        obtain ⟨v0, vsE0, rfl, hlv0⟩ := len_one hlv
        obtain rfl := len_nil hlv0
        exact ⟨(by repeat' (first | exact Below.refl _ _ | assumption | apply bDrewN | apply bDrew | apply bAlloc | (refine bSet ?_ ?_ _) | (refine bStep ?_ (by assumption)) | omega | (simp <;> omega))), fun e => by cases e⟩
      case each =>
        simp only [List.take_succ_cons, List.take_zero, AllE]
        refine ⟨?_, ?_, ?_, ?_, ?_, ?_, ?_, ?_, ?_, ?_, trivial⟩
        · refine ⟨32, (.pointer (some ⟨w.heap.size, 1, none⟩)), rfl, by kernel_rfl, ?_⟩
          intro bsE vsE W hlb hlv hnd h
          obtain ⟨b0, bsE0, rfl, hlb0⟩ := len_one hlb
          obtain ⟨v0, vsE0, rfl, hlv0⟩ := len_one hlv
          obtain rfl := len_nil hlb0
          obtain rfl := len_nil hlv0
          replace h : NBx W3 b0 v0 W := h
          clear hnd
          have HST := Lib.hid h
          have u1 := (h.bel.cell (p := ⟨w.heap.size, 1, none⟩) k0).trans c1; have u2 := (h.bel.cell (p := ⟨bv, ov, none⟩) lbv).trans g2; have hs := h.bel.size
          intro K Q hK
          simp only [putE, updAll, Act.put, List.setIfInBounds_toArray, List.set_cons_zero, List.set_cons_succ, List.set_nil] at hK ⊢
          go_wp2_with (fail)
          all_goals (first | exact hK _ (by first | exact h | exact h.step (by repeat' (first | exact Below.refl _ _ | apply bDrewN | apply bDrew))) | exact (by first | exact h | exact h.step (by repeat' (first | exact Below.refl _ _ | apply bDrewN | apply bDrew))))
        · refine ⟨33, (.slice (some ⟨bv, ov, none⟩) xs.length cv), rfl, by kernel_rfl, ?_⟩
          intro bsE vsE W hlb hlv hnd h
          obtain ⟨b0, bsE0, rfl, hlb0⟩ := len_one hlb
          obtain ⟨v0, vsE0, rfl, hlv0⟩ := len_one hlv
          obtain rfl := len_nil hlb0
          obtain rfl := len_nil hlv0
          replace h : NBx W3 b0 v0 W := h
          clear hnd
          have HST := Lib.hid h
          have u1 := (h.bel.cell (p := ⟨w.heap.size, 1, none⟩) k0).trans c1; have u2 := (h.bel.cell (p := ⟨bv, ov, none⟩) lbv).trans g2; have hs := h.bel.size
          intro K Q hK
          simp only [putE, updAll, Act.put, List.setIfInBounds_toArray, List.set_cons_zero, List.set_cons_succ, List.set_nil] at hK ⊢
          go_wp2_with (fail)
          all_goals (first | exact hK _ (by first | exact h | exact h.step (by repeat' (first | exact Below.refl _ _ | apply bDrewN | apply bDrew))) | exact (by first | exact h | exact h.step (by repeat' (first | exact Below.refl _ _ | apply bDrewN | apply bDrew))))
        · refine ⟨34, (.pointer (some ⟨bv, ov, none⟩)), rfl, by kernel_rfl, ?_⟩
          intro bsE vsE W hlb hlv hnd h
          obtain ⟨b0, bsE0, rfl, hlb0⟩ := len_one hlb
          obtain ⟨v0, vsE0, rfl, hlv0⟩ := len_one hlv
          obtain rfl := len_nil hlb0
          obtain rfl := len_nil hlv0
          replace h : NBx W3 b0 v0 W := h
          clear hnd
          have HST := Lib.hid h
          have u1 := (h.bel.cell (p := ⟨w.heap.size, 1, none⟩) k0).trans c1; have u2 := (h.bel.cell (p := ⟨bv, ov, none⟩) lbv).trans g2; have hs := h.bel.size
          intro K Q hK
          simp only [putE, updAll, Act.put, List.setIfInBounds_toArray, List.set_cons_zero, List.set_cons_succ, List.set_nil] at hK ⊢
          go_wp2_with (fail)
          all_goals (first | exact hK _ (by first | exact h | exact h.step (by repeat' (first | exact Below.refl _ _ | apply bDrewN | apply bDrew))) | exact (by first | exact h | exact h.step (by repeat' (first | exact Below.refl _ _ | apply bDrewN | apply bDrew))))
        · refine ⟨35, (.int .i64 y0), rfl, by kernel_rfl, ?_⟩
          intro bsE vsE W hlb hlv hnd h
          obtain ⟨b0, bsE0, rfl, hlb0⟩ := len_one hlb
          obtain ⟨v0, vsE0, rfl, hlv0⟩ := len_one hlv
          obtain rfl := len_nil hlb0
          obtain rfl := len_nil hlv0
          replace h : NBx W3 b0 v0 W := h
          clear hnd
          have HST := Lib.hid h
          have u1 := (h.bel.cell (p := ⟨w.heap.size, 1, none⟩) k0).trans c1; have u2 := (h.bel.cell (p := ⟨bv, ov, none⟩) lbv).trans g2; have hs := h.bel.size
          intro K Q hK
          simp only [putE, updAll, Act.put, List.setIfInBounds_toArray, List.set_cons_zero, List.set_cons_succ, List.set_nil] at hK ⊢
          go_wp2_with (fail)
          all_goals (first | exact hK _ (by first | exact h | exact h.step (by repeat' (first | exact Below.refl _ _ | apply bDrewN | apply bDrew))) | exact (by first | exact h | exact h.step (by repeat' (first | exact Below.refl _ _ | apply bDrewN | apply bDrew))))
        · refine ⟨36, (.pointer (some ⟨w.heap.size, 1, none⟩)), rfl, by kernel_rfl, ?_⟩
          intro bsE vsE W hlb hlv hnd h
          obtain ⟨b0, bsE0, rfl, hlb0⟩ := len_one hlb
          obtain ⟨v0, vsE0, rfl, hlv0⟩ := len_one hlv
          obtain rfl := len_nil hlb0
          obtain rfl := len_nil hlv0
          replace h : NBx W3 b0 v0 W := h
          clear hnd
          have HST := Lib.hid h
          have u1 := (h.bel.cell (p := ⟨w.heap.size, 1, none⟩) k0).trans c1; have u2 := (h.bel.cell (p := ⟨bv, ov, none⟩) lbv).trans g2; have hs := h.bel.size
          intro K Q hK
          simp only [putE, updAll, Act.put, List.setIfInBounds_toArray, List.set_cons_zero, List.set_cons_succ, List.set_nil] at hK ⊢
          go_wp2_with (fail)
          all_goals (first | exact hK _ (by first | exact h | exact h.step (by repeat' (first | exact Below.refl _ _ | apply bDrewN | apply bDrew))) | exact (by first | exact h | exact h.step (by repeat' (first | exact Below.refl _ _ | apply bDrewN | apply bDrew))))
        · refine ⟨37, (.slice (some ⟨bv, ov, none⟩) xs.length cv), rfl, by kernel_rfl, ?_⟩
          intro bsE vsE W hlb hlv hnd h
          obtain ⟨b0, bsE0, rfl, hlb0⟩ := len_one hlb
          obtain ⟨v0, vsE0, rfl, hlv0⟩ := len_one hlv
          obtain rfl := len_nil hlb0
          obtain rfl := len_nil hlv0
          replace h : NBx W3 b0 v0 W := h
          clear hnd
          have HST := Lib.hid h
          have u1 := (h.bel.cell (p := ⟨w.heap.size, 1, none⟩) k0).trans c1; have u2 := (h.bel.cell (p := ⟨bv, ov, none⟩) lbv).trans g2; have hs := h.bel.size
          intro K Q hK
          simp only [putE, updAll, Act.put, List.setIfInBounds_toArray, List.set_cons_zero, List.set_cons_succ, List.set_nil] at hK ⊢
          go_wp2_with (fail)
          all_goals (first | exact hK _ (by first | exact h | exact h.step (by repeat' (first | exact Below.refl _ _ | apply bDrewN | apply bDrew))) | exact (by first | exact h | exact h.step (by repeat' (first | exact Below.refl _ _ | apply bDrewN | apply bDrew))))
        · refine ⟨38, (.pointer (some ⟨bv, ov, none⟩)), rfl, by kernel_rfl, ?_⟩
          intro bsE vsE W hlb hlv hnd h
          obtain ⟨b0, bsE0, rfl, hlb0⟩ := len_one hlb
          obtain ⟨v0, vsE0, rfl, hlv0⟩ := len_one hlv
          obtain rfl := len_nil hlb0
          obtain rfl := len_nil hlv0
          replace h : NBx W3 b0 v0 W := h
          clear hnd
          have HST := Lib.hid h
          have u1 := (h.bel.cell (p := ⟨w.heap.size, 1, none⟩) k0).trans c1; have u2 := (h.bel.cell (p := ⟨bv, ov, none⟩) lbv).trans g2; have hs := h.bel.size
          intro K Q hK
          simp only [putE, updAll, Act.put, List.setIfInBounds_toArray, List.set_cons_zero, List.set_cons_succ, List.set_nil] at hK ⊢
          go_wp2_with (fail)
          all_goals (first | exact hK _ (by first | exact h | exact h.step (by repeat' (first | exact Below.refl _ _ | apply bDrewN | apply bDrew))) | exact (by first | exact h | exact h.step (by repeat' (first | exact Below.refl _ _ | apply bDrewN | apply bDrew))))
        · refine ⟨39, (.int .i64 y0), rfl, by kernel_rfl, ?_⟩
          intro bsE vsE W hlb hlv hnd h
          obtain ⟨b0, bsE0, rfl, hlb0⟩ := len_one hlb
          obtain ⟨v0, vsE0, rfl, hlv0⟩ := len_one hlv
          obtain rfl := len_nil hlb0
          obtain rfl := len_nil hlv0
          replace h : NBx W3 b0 v0 W := h
          clear hnd
          have HST := Lib.hid h
          have u1 := (h.bel.cell (p := ⟨w.heap.size, 1, none⟩) k0).trans c1; have u2 := (h.bel.cell (p := ⟨bv, ov, none⟩) lbv).trans g2; have hs := h.bel.size
          intro K Q hK
          simp only [putE, updAll, Act.put, List.setIfInBounds_toArray, List.set_cons_zero, List.set_cons_succ, List.set_nil] at hK ⊢
          go_wp2_with (fail)
          all_goals (first | exact hK _ (by first | exact h | exact h.step (by repeat' (first | exact Below.refl _ _ | apply bDrewN | apply bDrew))) | exact (by first | exact h | exact h.step (by repeat' (first | exact Below.refl _ _ | apply bDrewN | apply bDrew))))
        · refine ⟨40, (.agg #[.int .i64 y0, .int .i64 y0]), rfl, by kernel_rfl, ?_⟩
          intro bsE vsE W hlb hlv hnd h
          obtain ⟨b0, bsE0, rfl, hlb0⟩ := len_one hlb
          obtain ⟨v0, vsE0, rfl, hlv0⟩ := len_one hlv
          obtain rfl := len_nil hlb0
          obtain rfl := len_nil hlv0
          replace h : NBx W3 b0 v0 W := h
          clear hnd
          have HST := Lib.hid h
          have u1 := (h.bel.cell (p := ⟨w.heap.size, 1, none⟩) k0).trans c1; have u2 := (h.bel.cell (p := ⟨bv, ov, none⟩) lbv).trans g2; have hs := h.bel.size
          intro K Q hK
          simp only [putE, updAll, Act.put, List.setIfInBounds_toArray, List.set_cons_zero, List.set_cons_succ, List.set_nil] at hK ⊢
          go_wp2_with (fail)
          all_goals (first | exact hK _ (by first | exact h | exact h.step (by repeat' (first | exact Below.refl _ _ | apply bDrewN | apply bDrew))) | exact (by first | exact h | exact h.step (by repeat' (first | exact Below.refl _ _ | apply bDrewN | apply bDrew))))
        · refine ⟨6, rfl, ?_⟩
          intro bsE vsE W hlb hlv hnd hbk h
          obtain ⟨b0, bsE0, rfl, hlb0⟩ := len_one hlb
          obtain ⟨v0, vsE0, rfl, hlv0⟩ := len_one hlv
          obtain rfl := len_nil hlb0
          obtain rfl := len_nil hlv0
          obtain rfl : b0 = false := hbk
          replace h : NBx W3 false v0 W := h
          clear hnd
          have HST := Lib.hid h
          have u1 := (h.bel.cell (p := ⟨w.heap.size, 1, none⟩) k0).trans c1; have u2 := (h.bel.cell (p := ⟨bv, ov, none⟩) lbv).trans g2; have hs := h.bel.size
          intro K Q hK
          simp only [putE, updAll, Act.put, List.setIfInBounds_toArray, List.set_cons_zero, List.set_cons_succ, List.set_nil] at hK ⊢
          go_wp2_with fail
          all_goals (first | exact hK _ _ h.mk0 | exact h.mk0)
      case tail =>
        intro vsE W hlv h
        obtain ⟨v0, vsE0, rfl, hlv0⟩ := len_one hlv
        obtain rfl := len_nil hlv0
        replace h : NBx W3 true v0 W := h
        have HST := Lib.hid h
        obtain ⟨r, er, hr1, hr2⟩ := h.bx rfl
        subst er
        obtain ⟨t0, t1, t2, t3, t4⟩ := cv_openS hr2
        have hbl := h.bel
        refine wpOp_plain rfl rfl ?_
        simp only [putE, updAll, Act.put, List.setIfInBounds_toArray, List.set_cons_zero, List.set_cons_succ, List.set_nil]
        go_wp2_with fail
        go_meet
        refine ⟨r, rfl, (bStep kW hbl).setCell (by show w.heap.size ≤ r; omega) _ |>.setCell (by show w.heap.size ≤ r; omega) _, blk_set_other (blk_set_other (blk_step BX.out.1 hbl) (by show w.heap.size ≠ r; omega)) (by show w.heap.size ≠ r; omega), blk_set_other (blk_set_other (blk_step BX.out.2.1 hbl) (by show w.heap.size + 1 ≠ r; omega)) (by show w.heap.size + 1 ≠ r; omega), blk_set_other (blk_set_other (blk_step BX.out.2.2 hbl) (by show w.heap.size + 2 ≠ r; omega)) (by show w.heap.size + 2 ≠ r; omega), (blk_set (blk_set hr2)).trans rfl, by omega⟩
    case rest =>
      obtain ⟨r, rfl, P0⟩ := hcut
      clear c0 c1 c2 c3 c4 f3 f4 k0 k1 k2 BX g1 g2 lbv ks kW
      have HV0 := Lib.hid P0
      obtain ⟨c0, c1, k0⟩ := cv_open P0.cb
      obtain ⟨c2, k1⟩ := one_open P0.xb
      obtain ⟨c3, c4, f3, f4, k2⟩ := cv_openS P0.zb
      obtain ⟨c5, c6, f5, f6, k3⟩ := cv_openS P0.ob
      have hlt := P0.lt
      clear P0
      go_wp2_with (go_at_call 52; refine (callsIn_wide.1 (pieces_in Fence.wide 0 trivial rfl _ _ _ rfl rfl)).mono ?_; rintro e w' ⟨rfl, rfl⟩)

      have kB5 : Below w.heap.size w (wc.alloc (.cells #[(.slice (some ⟨bu, ou, none⟩) xs.length cu), (.slice (some ⟨bv, ov, none⟩) xs.length cv)] 24)) := bAlloc HV0.out.bel _
      have hs5 := HV0.out.bel.size
      have hVI : VI w x r (y0, y0) (wc.alloc (.cells #[(.slice (some ⟨bu, ou, none⟩) xs.length cu), (.slice (some ⟨bv, ov, none⟩) xs.length cv)] 24)) := VI.step ⟨c2, c5, c6, f5, f6, c3, c4, f3, f4⟩ (bAlloc (Below.refl _ _) _)
      have HVI := Lib.hid hVI
      have hCw := blk_new wc (.cells #[(.slice (some ⟨bu, ou, none⟩) xs.length cu), (.slice (some ⟨bv, ov, none⟩) xs.length cv)] 24)
      have hCx := Lib.hid (blk_cell (o := 0) hCw rfl)
      have hCy := Lib.hid (blk_cell (o := 1) hCw rfl)
      have hBx : ∀ k, k < xs.length → (wc.alloc (.cells #[(.slice (some ⟨bu, ou, none⟩) xs.length cu), (.slice (some ⟨bv, ov, none⟩) xs.length cv)] 24)).cell? ⟨bu, ou + k, none⟩ = some (.int .i64 (xs.getD k 0)) := fun k hk => (kB5.cell (p := ⟨bu, ou + k, none⟩) hbu).trans (HCX.out k hk)
      have hBy : ∀ k, k < xs.length → (wc.alloc (.cells #[(.slice (some ⟨bu, ou, none⟩) xs.length cu), (.slice (some ⟨bv, ov, none⟩) xs.length cv)] 24)).cell? ⟨bv, ov + k, none⟩ = some (.int .i64 (ys.getD k 0)) := fun k hk => (kB5.cell (p := ⟨bv, ov + k, none⟩) hbv).trans (HCY.out k hk)
      have HBx := Lib.hid hBx
      have HBy := Lib.hid hBy
      have hlt5 : wc.heap.size < (wc.alloc (.cells #[(.slice (some ⟨bu, ou, none⟩) xs.length cu), (.slice (some ⟨bv, ov, none⟩) xs.length cv)] 24)).heap.size ∧ bu < (wc.alloc (.cells #[(.slice (some ⟨bu, ou, none⟩) xs.length cu), (.slice (some ⟨bv, ov, none⟩) xs.length cv)] 24)).heap.size ∧ bv < (wc.alloc (.cells #[(.slice (some ⟨bu, ou, none⟩) xs.length cu), (.slice (some ⟨bv, ov, none⟩) xs.length cv)] 24)).heap.size ∧ r < wc.heap.size ∧ (wc.alloc (.cells #[(.slice (some ⟨bu, ou, none⟩) xs.length cu), (.slice (some ⟨bv, ov, none⟩) xs.length cv)] 24)).heap.size = wc.heap.size + 1 := ⟨by simp, by simp; omega, by simp; omega, k3, by simp⟩
      obtain ⟨l1, l2, l3, l4, l5⟩ := hlt5
      clear hVI hCw hBx hBy c0 c1 c2 c3 c4 c5 c6 f3 f4 f5 f6 k0 k1 k2 k3
      refine (wpIn_wide (n := 5)).1 ?_
      refine wpIn_rangeFunc_ownH rfl (by omega) (gf := 83) (lb := #[.pointer (some ⟨wc.heap.size, 0, none⟩)]) rfl trivial (enters_of Try.func83 (by kernel_rfl) rfl)
        (pieces_stops2 Fence.wide (5 - 1) trivial rfl (by omega) wc.heap.size bu ou cu bv ov cv xs.length xs ys p2 (by omega) HQ.out (wc.alloc (.cells #[(.slice (some ⟨bu, ou, none⟩) xs.length cu), (.slice (some ⟨bv, ov, none⟩) xs.length cv)] 24)) l1 l2 l3 hCx.out hCy.out HBx.out HBy.out)
        (fun h k => Kp3.trans h k) (fun W l o o' h1 h2 h3 h4 => ⟨(belowK_b (w := (wc.alloc (.cells #[(.slice (some ⟨bu, ou, none⟩) xs.length cu), (.slice (some ⟨bv, ov, none⟩) xs.length cv)] 24))) (Nat.le_refl _) W l o o' h1 h2 h3 h4).block _ l1, (belowK_b (w := (wc.alloc (.cells #[(.slice (some ⟨bu, ou, none⟩) xs.length cu), (.slice (some ⟨bv, ov, none⟩) xs.length cv)] 24))) (Nat.le_refl _) W l o o' h1 h2 h3 h4).block _ l2, (belowK_b (w := (wc.alloc (.cells #[(.slice (some ⟨bu, ou, none⟩) xs.length cu), (.slice (some ⟨bv, ov, none⟩) xs.length cv)] 24))) (Nat.le_refl _) W l o o' h1 h2 h3 h4).block _ l3⟩) (Below.refl _ _) (fun _ => rfl)
        (fun pre W => ((∀ k ∈ pre.map (kk m), xs.getD k 0 ≤ x) ∧ VI w x r (outV xs ys x y0 (pre.map (kk m))) W ∧ r < W.heap.size ∧ W.cell? ⟨wc.heap.size, 0, none⟩ = some (.slice (some ⟨bu, ou, none⟩) xs.length cu)) ∧ Below w.heap.size w W)
        (fun c pre W => (c = .exit 0 ∧ (∃ pre0 k, pre.map (kk m) = pre0 ++ [k] ∧ x < xs.getD k 0 ∧ (∀ j ∈ pre0, xs.getD j 0 ≤ x) ∧ VI w x r (outV xs ys x y0 pre0) W)) ∧ Below w.heap.size w W)
        (OwnFrom.and (Own.from (fun s A B row hs hg hr => ⟨hs.1, hs.2.1.kept hg hr, Nat.lt_of_lt_of_le hs.2.2.1 hg.size, cell_kept hs.2.2.2 hg hr⟩) _) (ownFrom_below (Nat.le_refl _) (by omega)))
        (fun c => OwnFrom.and (Own.from (fun s A B row hs hg hr => by obtain ⟨q1, pre0, k, q2, q3, q4, q5⟩ := hs; exact ⟨q1, pre0, k, q2, q3, q4, q5.kept hg hr⟩) _) (ownFrom_below (Nat.le_refl _) (by omega)))
        ⟨⟨by simp, HVI.out, by omega, hCx.out⟩, kB5⟩
        (fun k a' W => ∃ Bx, wc.heap.size < Bx ∧ W.cell? ⟨Bx, 0, none⟩ = some (.int .i64 (xs.getD (kk m k) 0)) ∧ W.cell? ⟨Bx, 1, none⟩ = some (.int .i64 (ys.getD (kk m k) 0)) ∧ W.cell? ⟨Bx, 2, none⟩ = some (.int .i64 (xs.getD (kk m k + 1) 0 - xs.getD (kk m k) 0)) ∧ W.cell? ⟨Bx, 3, none⟩ = some (.int .i64 (ys.getD (kk m k + 1) 0 - ys.getD (kk m k) 0)) ∧ a' = { tmps := #[(.agg #[(.slice (some ⟨bu, ou, none⟩) xs.length cu), (.slice (some ⟨bv, ov, none⟩) xs.length cv)]), (.int .i64 x), (.pointer (some ⟨w.heap.size, 0, none⟩)), (.pointer (some ⟨w.heap.size + 1, 0, none⟩)), (.pointer (some ⟨w.heap.size + 1 + 1, 0, none⟩)), (.int .i64 m), (.pointer (some ⟨r, 0, none⟩)), undef, (.pointer (some ⟨Bx, 0, none⟩)), undef, u10, u11, u12, u13, u14, u15, u16, u17, u18, u19, u20, u21, u22, u23, u24, u25, u26, u27, u28, u29, u30, u31, u32, u33, u34, u35, u36, u37, u38, u39, u40, (.agg #[(.slice (some ⟨bu, ou, none⟩) xs.length cu), (.slice (some ⟨bv, ov, none⟩) xs.length cv)]), (.func (.func 83) #[] #[.pointer (some ⟨wc.heap.size, 0, none⟩)]), (.int .i64 (kk m k : Nat)), (.agg #[.int .i64 (xs.getD (kk m k) 0), .int .i64 (ys.getD (kk m k) 0), .int .i64 (xs.getD (kk m k + 1) 0 - xs.getD (kk m k) 0), .int .i64 (ys.getD (kk m k + 1) 0 - ys.getD (kk m k) 0)]), u45, u46, u47, u48, u49, u50, u51, u52, u53, u54, u55, u56, u57, u58, u59, u60, u61, u62, u63, u64, u65, u66, u67, u68, u69], defers := [] })
        (fun k a' _ A B row hs hg hr => by obtain ⟨Bx, h1, h2, h3, h4, h5, h6⟩ := hs; exact ⟨Bx, h1, cell_kept h2 hg (fun r e => (hr r e).2), cell_kept h3 hg (fun r e => (hr r e).2), cell_kept h4 hg (fun r e => (hr r e).2), cell_kept h5 hg (fun r e => (hr r e).2), h6⟩) ?assign ?body ?done ?stop
      case assign =>
        rintro l pre k W K ⟨⟨i1, i2, i3, i5⟩, i4⟩ hK
        have hs : wc.heap.size < W.heap.size := cell_lt i5
        dsimp only [pcs]
        gi_wp2
        exact hK _ _ ((KeepsOthers.alloc _ _).from _) ⟨blk_allocK (by omega), blk_allocK (by omega), blk_allocK (by omega)⟩ ⟨⟨i1, i2.step bAl', by simp; omega, cell_step i5 bAl'⟩, i4.alloc (by omega) _⟩ ⟨W.heap.size, by omega, by exact blk_cell (blk_new W _) rfl, by exact blk_cell (blk_new W _) rfl, by exact blk_cell (blk_new W _) rfl, by exact blk_cell (blk_new W _) rfl, rfl⟩
      case body =>
        rintro l pre k a' W hl ⟨r', hr'⟩ ⟨⟨i1, i2, i3, i5⟩, i4⟩ ⟨Bx, hBx, e0, e1, e2, e3, rfl⟩ hlt9
        have hs : wc.heap.size < W.heap.size := cell_lt i5
        have hkm : kk m k < m := kk_lt (by omega)
        have hmap : (pre ++ [k]).map (kk m) = pre.map (kk m) ++ [kk m k] := by simp
        have HMap := Lib.hid hmap
        clear hmap
        generalize kk m k = k at *
        obtain ⟨q1, q2, q3, q4⟩ := HQ.out k
        obtain ⟨q5, q6, q7, q8⟩ := HQ.out (k + 1)
        have hri := HR.out k hkm
        unfold rising at hri
        obtain ⟨x0, o0, o1, fo0, fo1, z0, z1, fz0, fz1⟩ := id i2
        have hlb := cell_lt e0
        have hk5 := HV0.out.lt
        by_cases hxk : x < xs.getD k 0
        · have hI : ∃ pre0 k', pre.map (kk m) ++ [k] = pre0 ++ [k'] ∧ x < xs.getD k' 0 ∧ (∀ j ∈ pre0, xs.getD j 0 ≤ x) ∧ VI w x r (outV xs ys x y0 pre0) W := ⟨pre.map (kk m), k, rfl, hxk, i1, i2⟩
          have HI := Lib.hid hI
          clear hI i2
          generalize xs.getD (k + 1) 0 - xs.getD k 0 = dx at *
          generalize ys.getD (k + 1) 0 - ys.getD k 0 = dy at *
          generalize xs.getD k 0 = X at *
          generalize ys.getD k 0 = Y at *
          clear q5 q6 q7 q8 hri
          gi_wp2
          exact ⟨(KeepsOthers.refl _).from _, ⟨rfl, by rw [HMap.out]; exact HI.out⟩, i4⟩
        · have hI1 : ∀ j ∈ pre.map (kk m) ++ [k], xs.getD j 0 ≤ x := by
            intro j hj
            rcases List.mem_append.1 hj with hj | hj
            · exact i1 j hj
            · simp at hj; rw [hj]; omega
          have HI1 := Lib.hid hI1
          have RT := Lib.hid (fun W => ratio_any (x - xs.getD k 0) (ys.getD (k + 1) 0 - ys.getD k 0) (xs.getD (k + 1) 0 - xs.getD k 0) W (by omega) (by omega) (by omega) (by omega) (by omega) (by omega) (by omega))
          have hv1 := dn_bd (x - xs.getD k 0) (ys.getD (k + 1) 0 - ys.getD k 0) (xs.getD (k + 1) 0 - xs.getD k 0) (by omega)
          have hv2 := dn_bd (-(x - xs.getD k 0)) (ys.getD (k + 1) 0 - ys.getD k 0) (xs.getD (k + 1) 0 - xs.getD k 0) (by omega)
          have hup : up (x - xs.getD k 0) (ys.getD (k + 1) 0 - ys.getD k 0) (xs.getD (k + 1) 0 - xs.getD k 0) = - dn (-(x - xs.getD k 0)) (ys.getD (k + 1) 0 - ys.getD k 0) (xs.getD (k + 1) 0 - xs.getD k 0) := rfl
          have HOut := Lib.hid (show outV xs ys x y0 (pre.map (kk m) ++ [k]) = (ys.getD k 0 + dn (x - xs.getD k 0) (ys.getD (k + 1) 0 - ys.getD k 0) (xs.getD (k + 1) 0 - xs.getD k 0), ys.getD k 0 + up (x - xs.getD k 0) (ys.getD (k + 1) 0 - ys.getD k 0) (xs.getD (k + 1) 0 - xs.getD k 0)) from outV_app)
          have HI2 := Lib.hid i2
          clear hI1 i1 i2
          generalize up (x - xs.getD k 0) (ys.getD (k + 1) 0 - ys.getD k 0) (xs.getD (k + 1) 0 - xs.getD k 0) = uu at *
          generalize dn (-(x - xs.getD k 0)) (ys.getD (k + 1) 0 - ys.getD k 0) (xs.getD (k + 1) 0 - xs.getD k 0) = dd at *
          generalize dn (x - xs.getD k 0) (ys.getD (k + 1) 0 - ys.getD k 0) (xs.getD (k + 1) 0 - xs.getD k 0) = qq at *
          generalize xs.getD (k + 1) 0 - xs.getD k 0 = dx at *
          generalize ys.getD (k + 1) 0 - ys.getD k 0 = dy at *
          generalize xs.getD k 0 = X at *
          generalize ys.getD k 0 = Y at *
          have a1 : IntKind.i64.wrap (x - X) = x - X := Go.IntWalk.i64_in _ ⟨by omega, by omega⟩
          have a2 : IntKind.i64.wrap (Y + qq) = Y + qq := Go.IntWalk.i64_in _ ⟨by omega, by omega⟩
          have a3 : IntKind.i64.wrap (Y + uu) = Y + uu := Go.IntWalk.i64_in _ ⟨by omega, by omega⟩
          clear hup hv1 hv2 hri
          gi_wp2_with (refine ⟨trivial, ?_⟩; gi_at_call 77; refine (callsIn_wide.2 (RT.out _)).mono ?_; rintro e w' ⟨rfl, hb9⟩; have e0' := cell_step e0 hb9; have e1' := cell_step e1 hb9; have hH := HI2.out.step hb9; obtain ⟨x0', o0', o1', fo0', fo1', z0', z1', fz0', fz1'⟩ := id hH; have HH := Lib.hid hH; clear hH; have hrl : r < w'.heap.size := Nat.lt_of_lt_of_le i3 hb9.size; have hlb' := cell_lt e0')
          have hK1 : Kp3 wc.heap.size bu bv W w' := ⟨hb9.block _ hs, hb9.block _ (by omega), hb9.block _ (by omega)⟩
          have hbel2 : Below w.heap.size w w' := bStep i4 hb9
          have hrW : r < W.heap.size := i3
          have hr1 : wc.heap.size ≠ r := by omega
          have hr2 : bu ≠ r := by omega
          have hr3 : bv ≠ r := by omega
          have hs9 := hb9.size
          have g5 := cell_step i5 hb9
          have hfin := body_end (qq := qq) (uu := uu) (y := Y + qq) (z := Y + uu) HH.out hk5 hrl hbel2 (by omega) hr1 hr2 hr3 (by omega) (by omega) (by omega) g5
          refine ⟨((keeps_below hb9).trans hfin.1).from _, hK1.trans hfin.2.1, ⟨by rw [HMap.out]; exact HI1.out, by rw [HMap.out, HOut.out]; exact hfin.2.2.1, by simp; omega, hfin.2.2.2.1⟩, hfin.2.2.2.2⟩
      case done =>
        rintro D zs W hD rfl ⟨⟨hall, hvi, hrl, -⟩, hB⟩ hK
        rw [hm] at hall hvi
        rw [kk_range (Nat.le_refl _)] at hall hvi
        rw [← HY0.out, outV_range (fun j hj => hall j (List.mem_range.2 hj))] at hvi
        generalize hoo : vS xs ys x m = oo at *
        obtain ⟨v1, v2⟩ := oo
        obtain ⟨x0, o0, o1, fo0, fo1, z0, z1, fz0, fz1⟩ := hvi
        dsimp only at o0 o1
        have HOO := Lib.hid hoo
        have hlz := HV0.out.lt
        clear hoo
        go_wp2_with fail
        have hK1 := (KeepsOthers.setCell W ⟨w.heap.size + 1 + 1, 0, none⟩ (.int .i64 v1)).same D _ hK rfl
        have hK2 := (KeepsOthers.setCell _ ⟨w.heap.size + 1 + 1, 1, none⟩ (.int .i64 v2)).same D _ hK1 rfl
        obtain ⟨t0, t1⟩ := two_put (b := w.heap.size + 1 + 1) z0 z1 (y := .int .i64 v1) (z := .int .i64 v2)
        refine ⟨by simp, .inl ⟨_, _, rfl, run_takeDeferred hK2, ?_⟩⟩
        have hc5 := cell_kept t0 (grownBy_putObj' _ D (.deferred none)) (fun r e => by cases e; exact ⟨_, hK2, rfl⟩)
        have hc6 := cell_kept t1 (grownBy_putObj' _ D (.deferred none)) (fun r e => by cases e; exact ⟨_, hK2, rfl⟩)
        refine ⟨.agg #[.int .i64 v1, .int .i64 v2], ?_, ?_, ((hB.setCell (p := ⟨w.heap.size + 1 + 1, 0, none⟩) (by show w.heap.size ≤ w.heap.size + 1 + 1; omega) _).setCell (p := ⟨w.heap.size + 1 + 1, 1, none⟩) (by show w.heap.size ≤ w.heap.size + 1 + 1; omega) _).trans (belowK_b (w := w) (Nat.le_refl _) _ D _ _ (by omega) hK2 rfl rfl)⟩
        · simp [results, Try.f53, go_sem, hc5, hc6]
        · rw [HOO.out]
      case stop =>
        rintro D c pre W hD ⟨k', hk', rfl⟩ ⟨⟨rfl, pre0, k, e1, e2, e3, hvi⟩, hB⟩ hK
        rw [hm] at hk'
        rw [kk_range hk'] at e1
        have hkl : pre0 = List.range k ∧ k < m := by
          have hl := congrArg List.length e1
          simp at hl
          subst hl
          rw [List.range_succ] at e1
          have h1 := List.append_inj_left' e1 (by simp)
          have h2 := List.append_inj_right' e1 (by simp)
          simp at h2
          rw [h2] at h1
          exact ⟨h1.symm, by omega⟩
        obtain ⟨rfl, hkm⟩ := hkl
        rw [← HY0.out, outV_range (fun j hj => e3 j (List.mem_range.2 hj)), ← vS_stop (by rw [hm]; exact HR.out) e2 m (by omega) (by omega)] at hvi
        generalize hoo : vS xs ys x m = oo at *
        obtain ⟨v1, v2⟩ := oo
        clear e1 e2 e3
        obtain ⟨x0, o0, o1, fo0, fo1, z0, z1, fz0, fz1⟩ := hvi
        dsimp only at o0 o1
        have HOO := Lib.hid hoo
        have hlz := HV0.out.lt
        clear hoo
        refine wpIn_wide.2 ?_
        go_wp2_with fail
        have hK1 := (KeepsOthers.setCell W ⟨w.heap.size + 1 + 1, 0, none⟩ (.int .i64 v1)).same D _ hK rfl
        have hK2 := (KeepsOthers.setCell _ ⟨w.heap.size + 1 + 1, 1, none⟩ (.int .i64 v2)).same D _ hK1 rfl
        obtain ⟨t0, t1⟩ := two_put (b := w.heap.size + 1 + 1) z0 z1 (y := .int .i64 v1) (z := .int .i64 v2)
        refine ⟨by simp, .inl ⟨_, _, rfl, run_takeDeferred hK2, ?_⟩⟩
        have hc5 := cell_kept t0 (grownBy_putObj' _ D (.deferred none)) (fun r e => by cases e; exact ⟨_, hK2, rfl⟩)
        have hc6 := cell_kept t1 (grownBy_putObj' _ D (.deferred none)) (fun r e => by cases e; exact ⟨_, hK2, rfl⟩)
        refine ⟨.agg #[.int .i64 v1, .int .i64 v2], ?_, ?_, ((hB.setCell (p := ⟨w.heap.size + 1 + 1, 0, none⟩) (by show w.heap.size ≤ w.heap.size + 1 + 1; omega) _).setCell (p := ⟨w.heap.size + 1 + 1, 1, none⟩) (by show w.heap.size ≤ w.heap.size + 1 + 1; omega) _).trans (belowK_b (w := w) (Nat.le_refl _) _ D _ _ (by omega) hK2 rfl rfl)⟩
        · simp [results, Try.f53, go_sem, hc5, hc6]
        · rw [HOO.out]

end Go.Proofs.Ytngnehlmbipabaa
