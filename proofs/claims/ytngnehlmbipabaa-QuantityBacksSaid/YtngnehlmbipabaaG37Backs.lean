/-
  The walk of QuantityBacks.
-/
import Derived.Test.YtngnehlmbipabaaG35Backs
import Derived.Test.YtngnehlmbipabaaG36Backs
import Derived.BigQuiet
set_option linter.unusedSimpArgs false
set_option linter.unusedVariables false
namespace Go.Proofs.Ytngnehlmbipabaa
open Go.RowKit
theorem StAt.step {a : Option Addr} {l : List (Int × Int)} {W w2 : World} (h : StAt a l W) (hb : Below W.heap.size W w2) : StAt a l w2 := fun h0 => by
  obtain ⟨b, o, rfl, h1, h2⟩ := h h0
  exact ⟨b, o, rfl, Nat.lt_of_lt_of_le h1 hb.size, fun k hk => ⟨cell_step (h2 k hk).1 hb, cell_step (h2 k hk).2 hb⟩⟩
/-- What the walk holds on to: boxes, the curve's first number. -/
structure BkW (w2 : World) (L : List (Nat × Obj)) (bu ou : Nat) (x0 : Int) (W : World) : Prop where
  bel : Below w2.heap.size w2 W
  sb : ∀ p ∈ L, W.heap[p.1]? = some p.2
  cf : W.cell? ⟨bu, ou, none⟩ = some (.int .i64 x0)
section
variable {w2 W W2 : World} {L L' : List (Nat × Obj)} {bu ou : Nat} {x0 : Int}
theorem BkW.step (h : BkW w2 L bu ou x0 W) (hb : Below W.heap.size W W2) : BkW w2 L bu ou x0 W2 := ⟨bStep h.bel hb, fun p hp => blk_step (h.sb p hp) hb, cell_step h.cf hb⟩
theorem BkW.new (h : BkW w2 L bu ou x0 W) {o : Obj} : BkW w2 ((W.heap.size, o) :: L) bu ou x0 (W.alloc o) := by
  have k := h.step (bAl'' (o := o))
  refine ⟨k.bel, fun p hp => ?_, k.cf⟩
  rcases List.mem_cons.1 hp with rfl | hp
  · exact blk_new W _
  · exact k.sb p hp
theorem BkW.box (h : BkW w2 L bu ou x0 W) {o : Obj} (hb : Below (W.alloc o).heap.size (W.alloc o) W2) : BkW w2 ((W.heap.size, o) :: L) bu ou x0 W2 := h.new.step hb
theorem BkW.put (h : BkW w2 L bu ou x0 W) {r : Nat} {x y x' y' : Value} {T : TypeId} (hm : (r, Obj.cells #[x, y] T) ∈ L) (hL : ∀ p ∈ L', p ∈ L ∧ p.1 ≠ r) (hr : w2.heap.size ≤ r) (hbu : bu ≠ r) : BkW w2 ((r, Obj.cells #[x', y'] T) :: L') bu ou x0 ((W.setCell ⟨r, 0, none⟩ x').setCell ⟨r, 1, none⟩ y') := by
  refine ⟨(h.bel.setCell (p := ⟨r, 0, none⟩) hr _).setCell (p := ⟨r, 1, none⟩) hr _, fun p hp => ?_, ?_⟩
  · rcases List.mem_cons.1 hp with rfl | hp
    · exact (blk_set ((blk_set (h.sb _ hm)).trans rfl)).trans rfl
    · obtain ⟨h1, h2⟩ := hL p hp
      exact blk_set_other (blk_set_other (h.sb p h1) h2) h2
  · exact cell_set_far (cell_set_far h.cf hbu) hbu
end
theorem three_open {b : Nat} {x y z : Value} {W : World} {T : TypeId} (h : W.heap[b]? = some (.cells #[x, y, z] T)) : W.cell? ⟨b, 0, none⟩ = some x ∧ W.cell? ⟨b, 1, none⟩ = some y ∧ W.cell? ⟨b, 2, none⟩ = some z ∧ b < W.heap.size :=
  ⟨blk_cell h rfl, blk_cell h rfl, blk_cell h rfl, blk_lt h⟩
theorem Has_two (a b x : Int) (W : World) (h : hasS (a, b) x = true) : Calls Try.prog 16 #[.agg #[.int .i64 a, .int .i64 b], .int .i64 x] W fun e w' => e = .returned (.bool true) ∧ Below W.heap.size W w' := by
  have := Has_any (a, b) x W
  rw [h] at this
  exact this
set_option maxHeartbeats 8000000 in
set_option maxRecDepth 20000 in
theorem Backs_main (A B : Int → Int) (X Y : List Int) (x0 y0 last sd lo len at_ t1 t2 : Int) (a : Option Addr) (c : Nat) (l : List (Int × Int)) (w : World)
    (CV : Hid (∀ W, StAt a l W → Calls Try.prog 13 #[.int .i16 x0, .int .i16 y0, .slice a l.length c] W fun e w' => CvRes X Y W e w'))
    (AT : Hid (∀ (bu ou cu bv ov cv : Nat) (x : Int) (W : World) (hx : isQ x = true) (h1 : IntAt (some ⟨bu, ou, none⟩) X W) (h2 : IntAt (some ⟨bv, ov, none⟩) Y W), Calls Try.prog 14 #[(.agg #[(.slice (some ⟨bu, ou, none⟩) X.length cu), (.slice (some ⟨bv, ov, none⟩) X.length cv)]), .int .i64 x] W fun e w' => e = .returned (.tuple #[.agg #[.int .i64 (A x), .int .i64 (B x)], .int .i64 0]) ∧ Below W.heap.size W w'))
    (BV : Hid (∀ (bu ou cu bv ov cv : Nat) (p : Int) (W : World) (hp : x0 ≤ p ∧ p ≤ last) (h1 : IntAt (some ⟨bu, ou, none⟩) X W) (h2 : IntAt (some ⟨bv, ov, none⟩) Y W), Calls Try.prog 15 #[(.agg #[(.slice (some ⟨bu, ou, none⟩) X.length cu), (.slice (some ⟨bv, ov, none⟩) X.length cv)]), .agg #[.int .i64 (A p), .int .i64 (B p)]] W fun e w' => (∃ b1 b2, e = .returned (.tuple #[.agg #[.int .i64 b1, .int .i64 b2], .int .i64 0]) ∧ hasS (b1, b2) p = true) ∧ Below W.heap.size W w'))
    (BT : Hid (∀ (bu ou cu bv ov cv : Nat) (W : World) (h1 : IntAt (some ⟨bu, ou, none⟩) X W) (h2 : IntAt (some ⟨bv, ov, none⟩) Y W), Calls Try.prog 15 #[(.agg #[(.slice (some ⟨bu, ou, none⟩) X.length cu), (.slice (some ⟨bv, ov, none⟩) X.length cv)]), .agg #[.int .i64 t1, .int .i64 t2]] W fun e w' => (∃ b1 b2 g, e = .returned (.tuple #[.agg #[.int .i64 b1, .int .i64 b2], .int .i64 g]) ∧ ((g = 0 ∧ x0 ≤ b1 ∧ b1 ≤ b2 ∧ b2 ≤ last) ∨ g = 5) ∧ ∀ x, x0 ≤ x → x ≤ last → (((g = 0 ∧ b1 ≤ x) ∧ x ≤ b2) ↔ (t1 ≤ A x ∧ B x ≤ t2))) ∧ Below W.heap.size W w'))
    (IM : Hid (∀ (bu ou cu bv ov cv : Nat) (W : World) (h1 : IntAt (some ⟨bu, ou, none⟩) X W) (h2 : IntAt (some ⟨bv, ov, none⟩) Y W), Calls Try.prog 18 #[(.agg #[(.slice (some ⟨bu, ou, none⟩) X.length cu), (.slice (some ⟨bv, ov, none⟩) X.length cv)]), .agg #[.int .i64 t1, .int .i64 t2]] W fun e w' => e = .returned (.tuple #[.agg #[.int .i64 (A t1), .int .i64 (B t2)], .int .i64 0]) ∧ Below W.heap.size W w'))
    (SP : Hid (∀ W : World, Calls Try.prog 17 #[.agg #[.int .i16 lo, .int .i16 len, .int .u16 at_]] W fun e w' => e = .returned (.agg #[.int .i64 t1, .int .i64 t2]) ∧ Below W.heap.size W w'))
    (NE : Hid (∀ x, A x ≤ B x ∧ B x ≤ A x + 1)) (MO : Hid (∀ x, A x ≤ A (x + 1) ∧ B x ≤ B (x + 1))) (BD : Hid (∀ x, -60000 ≤ A x ∧ B x ≤ 60000))
    (hA : Hid (StAt a l w)) (hX : Hid (2 ≤ X.length ∧ X.length ≤ 100)) (hf : Hid (X.getD 0 0 = x0)) (hl : Hid (X.getD (X.length - 1) 0 = last)) (hx0 : -32768 ≤ x0 ∧ x0 ≤ 32767) (hlr : x0 ≤ last ∧ last ≤ x0 + 5120) (hsd : 0 ≤ sd ∧ sd ≤ 65535) (ht : -100000 ≤ t1 ∧ t1 ≤ 100000 ∧ -100000 ≤ t2 ∧ t2 ≤ 100000) :
    Calls Try.prog 4 #[.int .i16 x0, .int .i16 y0, .slice a l.length c, .int .u16 sd, .agg #[.int .i16 lo, .int .i16 len, .int .u16 at_]] w fun e w' => e = .returned (.bool true) ∧ Below w.heap.size w w' := by
  obtain ⟨m, hm⟩ : ∃ m, X.length - 1 = m := ⟨_, rfl⟩
  have hml : X.length = m + 1 := by have := hX.out; omega
  have hX1 := Lib.hid hml
  have hl2 := hl.out
  rw [hm] at hl2
  have HL := Lib.hid hl2
  have m1 : ((m + 1 : Nat) : Int) - 1 = (m : Nat) := by omega
  have m3 : ((m : Nat) : Int) < ((m + 1 : Nat) : Int) := by omega
  have m4 : (0 : Int) < ((m + 1 : Nat) : Int) := by omega
  have m6 : m ≤ 100 := by have := hX.out; omega
  have m5 : IntKind.i64.wrap ((m : Nat) : Int) = (m : Nat) := Go.IntWalk.i64_in _ ⟨by omega, by omega⟩
  rw [hml] at AT BV BT IM
  clear hm hml hl hl2 hX
  go_enter Try.func4, Try.ntmps4
  go_upto_region 3 with (go_at_call 13; refine (CV.out _ (hA.out.step (by repeat' (first | exact Below.refl _ _ | assumption | apply bDrewN | apply bDrew | apply bAlloc | (refine bSet ?_ ?_ _) | (refine bStep ?_ (by assumption)) | omega | (simp <;> omega))))).mono ?_; rintro e w1 ⟨bu, ou, cu, bv, ov, cv, rfl, hA1, hB1, hb1⟩; obtain ⟨_, _, e1, hbu, hcx⟩ := id (hA1 (fun h => by have := hX1.out; rw [h] at this; simp at this)); cases e1; have cf0 := hcx 0 (by have := hX1.out; omega); rw [Nat.add_zero, hf.out] at cf0; have cl0 := hcx m (by have := hX1.out; omega); rw [HL.out] at cl0; clear hcx; have s0 := blk_step (blk_new w (.cells #[.int .i16 lo, .int .i16 len, .int .u16 at_] 37)) hb1; rw [hX1.out])
  have kB := Lib.hid (show Below w.heap.size w (w1.alloc (.cells #[(.slice (some ⟨bu, ou, none⟩) (m + 1) cu), (.slice (some ⟨bv, ov, none⟩) (m + 1) cv)] 24)) from (by repeat' (first | exact Below.refl _ _ | assumption | apply bDrewN | apply bDrew | apply bAlloc | (refine bSet ?_ ?_ _) | (refine bStep ?_ (by assumption)) | omega | (simp <;> omega))))
  have HA := Lib.hid (hA1.step (bAl'' (o := .cells #[(.slice (some ⟨bu, ou, none⟩) (m + 1) cu), (.slice (some ⟨bv, ov, none⟩) (m + 1) cv)] 24)))
  have HB := Lib.hid (hB1.step (bAl'' (o := .cells #[(.slice (some ⟨bu, ou, none⟩) (m + 1) cu), (.slice (some ⟨bv, ov, none⟩) (m + 1) cv)] 24)))
  have HS : Hid (BkW (w1.alloc (.cells #[(.slice (some ⟨bu, ou, none⟩) (m + 1) cu), (.slice (some ⟨bv, ov, none⟩) (m + 1) cv)] 24)) [(w1.heap.size, Obj.cells #[(.slice (some ⟨bu, ou, none⟩) (m + 1) cu), (.slice (some ⟨bv, ov, none⟩) (m + 1) cv)] 24), (w.heap.size, Obj.cells #[(.int .i16 lo), (.int .i16 len), (.int .u16 at_)] 37)] bu ou x0 (w1.alloc (.cells #[(.slice (some ⟨bu, ou, none⟩) (m + 1) cu), (.slice (some ⟨bv, ov, none⟩) (m + 1) cv)] 24))) := by
    refine ⟨Below.refl _ _, fun p hp => ?_, cell_step cf0 bAl''⟩
    rcases List.mem_cons.1 hp with rfl | hp
    · exact blk_new w1 _
    · obtain rfl := List.mem_singleton.1 hp
      exact blk_step s0 bAl''
  obtain ⟨cb, hcb⟩ : ∃ cb, cb = w1.heap.size := ⟨_, rfl⟩
  rw [← hcb] at HS ⊢
  generalize w1.alloc (.cells #[(.slice (some ⟨bu, ou, none⟩) (m + 1) cu), (.slice (some ⟨bv, ov, none⟩) (m + 1) cv)] 24) = w2 at *
  have hbw : bu < w2.heap.size := cell_lt HS.out.cf
  have ob := blk_lt (HS.out.sb _ (List.mem_cons_self))
  clear hA1 hB1 hb1 hbu cf0 cl0 s0 CV hA hf HL hX1 hcb
  obtain ⟨c00, c01, f00, f01, l0⟩ := cv_openF (HS.out.sb _ (show (cb, Obj.cells #[(.slice (some ⟨bu, ou, none⟩) (m + 1) cu), (.slice (some ⟨bv, ov, none⟩) (m + 1) cv)] 24) ∈ _ from by simp)); obtain ⟨c10, c11, c12, l1⟩ := three_open (HS.out.sb _ (show (w.heap.size, Obj.cells #[(.int .i16 lo), (.int .i16 len), (.int .u16 at_)] 37) ∈ _ from by simp)); have cf := HS.out.cf; have lu := cell_lt cf
  have r1 := Int.emod_nonneg sd (show last - x0 + 1 ≠ 0 by omega)
  have r2 := Int.emod_lt_of_pos sd (show 0 < last - x0 + 1 by omega)
  have r3 : sd % (last - x0 + 1) ≤ 65535 := by omega
  go_quiet (fail)
  obtain ⟨p, hp⟩ : ∃ p, x0 + sd % (last - x0 + 1) = p := ⟨_, rfl⟩
  rw [hp]
  have pr : x0 ≤ p ∧ p ≤ last := by omega
  have hN := Lib.hid (HS.out.step (bDrewN (n := nq) (Below.refl _ _)))
  clear c00 c01 f00 f01 l0 c10 c11 c12 l1 cf lu
  clear HS hp r1 r2 r3 hsd
  have HS := hN
  clear hN
  generalize w2.drewN nq = w3 at *
  obtain ⟨c00, c01, f00, f01, l0⟩ := cv_openF (HS.out.sb _ (show (cb, Obj.cells #[(.slice (some ⟨bu, ou, none⟩) (m + 1) cu), (.slice (some ⟨bv, ov, none⟩) (m + 1) cv)] 24) ∈ _ from by simp)); obtain ⟨c10, c11, c12, l1⟩ := three_open (HS.out.sb _ (show (w.heap.size, Obj.cells #[(.int .i16 lo), (.int .i16 len), (.int .u16 at_)] 37) ∈ _ from by simp)); have cf := HS.out.cf; have lu := cell_lt cf
  have hq1 : isQ p = true := (isQ_iff _).2 (by omega)
  have hq2 : isQ (p + 1) = true := (isQ_iff _).2 (by omega)
  have bd1 := BD.out p
  have bd2 := BD.out (p + 1)
  have ne1 := NE.out p
  have ne2 := NE.out (p + 1)
  have mo1 := MO.out p
  have n1 : ¬ 1 < B p - A p := by omega
  have n2 : ¬ A (p + 1) < A p := by omega
  have n3 : ¬ B (p + 1) < B p := by omega
  go_upto_region 11 with (first
    | (go_at_call 14; (with_reducible refine (AT.out _ _ _ _ _ _ p w3 hq1 (HA.out.step HS.out.bel) (HB.out.step HS.out.bel)).mono ?_); rintro e w4 ⟨rfl, hb4⟩; have hN := Lib.hid (HS.out.step hb4); clear c00 c01 f00 f01 l0 c10 c11 c12 l1 cf lu; clear HS; have HS := hN; clear hN; obtain ⟨c00, c01, f00, f01, l0⟩ := cv_openF (HS.out.sb _ (show (cb, Obj.cells #[(.slice (some ⟨bu, ou, none⟩) (m + 1) cu), (.slice (some ⟨bv, ov, none⟩) (m + 1) cv)] 24) ∈ _ from by simp)); obtain ⟨c10, c11, c12, l1⟩ := three_open (HS.out.sb _ (show (w.heap.size, Obj.cells #[(.int .i16 lo), (.int .i16 len), (.int .u16 at_)] 37) ∈ _ from by simp)); have cf := HS.out.cf; have lu := cell_lt cf)
    | (go_at_call 14; (with_reducible refine (AT.out _ _ _ _ _ _ (p + 1) _ hq2 (HA.out.step HS.out.new.bel) (HB.out.step HS.out.new.bel)).mono ?_); rintro e w5 ⟨rfl, hb5⟩; have hN := Lib.hid (HS.out.box hb5); clear c00 c01 f00 f01 l0 c10 c11 c12 l1 cf lu; clear HS; have HS := hN; clear hN; obtain ⟨c00, c01, f00, f01, l0⟩ := cv_openS (HS.out.sb _ (show (w4.heap.size, Obj.cells #[(.int .i64 (A p)), (.int .i64 (B p))] 40) ∈ _ from by simp)); obtain ⟨c10, c11, f10, f11, l1⟩ := cv_openF (HS.out.sb _ (show (cb, Obj.cells #[(.slice (some ⟨bu, ou, none⟩) (m + 1) cu), (.slice (some ⟨bv, ov, none⟩) (m + 1) cv)] 24) ∈ _ from by simp)); obtain ⟨c20, c21, c22, l2⟩ := three_open (HS.out.sb _ (show (w.heap.size, Obj.cells #[(.int .i16 lo), (.int .i16 len), (.int .u16 at_)] 37) ∈ _ from by simp)); have cf := HS.out.cf; have lu := cell_lt cf; have o1 := l0)
    | (go_at_call 15; (with_reducible refine (BV.out _ _ _ _ _ _ p _ pr (HA.out.step HS.out.new.bel) (HB.out.step HS.out.new.bel)).mono ?_); rintro e w6 ⟨⟨b1, b2, rfl, hh⟩, hb6⟩; have hN := Lib.hid (HS.out.box hb6); clear c00 c01 f00 f01 l0 c10 c11 f10 f11 l1 c20 c21 c22 l2 cf lu; clear HS; have HS := hN; clear hN; obtain ⟨c00, c01, f00, f01, l0⟩ := cv_openS (HS.out.sb _ (show (w5.heap.size, Obj.cells #[(.int .i64 (A (p + 1))), (.int .i64 (B (p + 1)))] 40) ∈ _ from by simp)); obtain ⟨c10, c11, f10, f11, l1⟩ := cv_openS (HS.out.sb _ (show (w4.heap.size, Obj.cells #[(.int .i64 (A p)), (.int .i64 (B p))] 40) ∈ _ from by simp)); obtain ⟨c20, c21, f20, f21, l2⟩ := cv_openF (HS.out.sb _ (show (cb, Obj.cells #[(.slice (some ⟨bu, ou, none⟩) (m + 1) cu), (.slice (some ⟨bv, ov, none⟩) (m + 1) cv)] 24) ∈ _ from by simp)); obtain ⟨c30, c31, c32, l3⟩ := three_open (HS.out.sb _ (show (w.heap.size, Obj.cells #[(.int .i16 lo), (.int .i16 len), (.int .u16 at_)] 37) ∈ _ from by simp)); have cf := HS.out.cf; have lu := cell_lt cf; have o2 := l0; have kz := HS.out.bel.size; have KH := Lib.hid (fun W => Has_two b1 b2 p W hh))
    | (go_at_call 16; (with_reducible refine (KH.out _).mono ?_); rintro e w7 ⟨rfl, hb7⟩; have hN := Lib.hid (HS.out.box hb7); clear c00 c01 f00 f01 l0 c10 c11 f10 f11 l1 c20 c21 f20 f21 l2 c30 c31 c32 l3 cf lu; clear HS; have HS := hN; clear hN; obtain ⟨c00, c01, f00, f01, l0⟩ := cv_openS (HS.out.sb _ (show (w6.heap.size, Obj.cells #[(.int .i64 b1), (.int .i64 b2)] 40) ∈ _ from by simp)); obtain ⟨c10, c11, f10, f11, l1⟩ := cv_openS (HS.out.sb _ (show (w5.heap.size, Obj.cells #[(.int .i64 (A (p + 1))), (.int .i64 (B (p + 1)))] 40) ∈ _ from by simp)); obtain ⟨c20, c21, f20, f21, l2⟩ := cv_openS (HS.out.sb _ (show (w4.heap.size, Obj.cells #[(.int .i64 (A p)), (.int .i64 (B p))] 40) ∈ _ from by simp)); obtain ⟨c30, c31, f30, f31, l3⟩ := cv_openF (HS.out.sb _ (show (cb, Obj.cells #[(.slice (some ⟨bu, ou, none⟩) (m + 1) cu), (.slice (some ⟨bv, ov, none⟩) (m + 1) cv)] 24) ∈ _ from by simp)); obtain ⟨c40, c41, c42, l4⟩ := three_open (HS.out.sb _ (show (w.heap.size, Obj.cells #[(.int .i16 lo), (.int .i16 len), (.int .u16 at_)] 37) ∈ _ from by simp)); have cf := HS.out.cf; have lu := cell_lt cf; have o3 := l0)
    | (go_at_call 17; (with_reducible refine (SP.out _).mono ?_); rintro e w8 ⟨rfl, hb8⟩; have hN := Lib.hid (HS.out.step hb8); clear c00 c01 f00 f01 l0 c10 c11 f10 f11 l1 c20 c21 f20 f21 l2 c30 c31 f30 f31 l3 c40 c41 c42 l4 cf lu; clear HS; have HS := hN; clear hN; obtain ⟨c00, c01, f00, f01, l0⟩ := cv_openS (HS.out.sb _ (show (w6.heap.size, Obj.cells #[(.int .i64 b1), (.int .i64 b2)] 40) ∈ _ from by simp)); obtain ⟨c10, c11, f10, f11, l1⟩ := cv_openS (HS.out.sb _ (show (w5.heap.size, Obj.cells #[(.int .i64 (A (p + 1))), (.int .i64 (B (p + 1)))] 40) ∈ _ from by simp)); obtain ⟨c20, c21, f20, f21, l2⟩ := cv_openS (HS.out.sb _ (show (w4.heap.size, Obj.cells #[(.int .i64 (A p)), (.int .i64 (B p))] 40) ∈ _ from by simp)); obtain ⟨c30, c31, f30, f31, l3⟩ := cv_openF (HS.out.sb _ (show (cb, Obj.cells #[(.slice (some ⟨bu, ou, none⟩) (m + 1) cu), (.slice (some ⟨bv, ov, none⟩) (m + 1) cv)] 24) ∈ _ from by simp)); obtain ⟨c40, c41, c42, l4⟩ := three_open (HS.out.sb _ (show (w.heap.size, Obj.cells #[(.int .i16 lo), (.int .i16 len), (.int .u16 at_)] 37) ∈ _ from by simp)); have cf := HS.out.cf; have lu := cell_lt cf; have o4 := l0)
    | (go_at_call 15; (with_reducible refine (BT.out _ _ _ _ _ _ _ (HA.out.step HS.out.new.bel) (HB.out.step HS.out.new.bel)).mono ?_); rintro e w9 ⟨⟨b3, b4, g, rfl, hg, HT⟩, hb9⟩; have hN := Lib.hid (HS.out.box hb9); clear c00 c01 f00 f01 l0 c10 c11 f10 f11 l1 c20 c21 f20 f21 l2 c30 c31 f30 f31 l3 c40 c41 c42 l4 cf lu; clear HS; have HS := hN; clear hN; obtain ⟨c00, c01, f00, f01, l0⟩ := cv_openS (HS.out.sb _ (show (w8.heap.size, Obj.cells #[(.int .i64 t1), (.int .i64 t2)] 40) ∈ _ from by simp)); obtain ⟨c10, c11, f10, f11, l1⟩ := cv_openS (HS.out.sb _ (show (w6.heap.size, Obj.cells #[(.int .i64 b1), (.int .i64 b2)] 40) ∈ _ from by simp)); obtain ⟨c20, c21, f20, f21, l2⟩ := cv_openS (HS.out.sb _ (show (w5.heap.size, Obj.cells #[(.int .i64 (A (p + 1))), (.int .i64 (B (p + 1)))] 40) ∈ _ from by simp)); obtain ⟨c30, c31, f30, f31, l3⟩ := cv_openS (HS.out.sb _ (show (w4.heap.size, Obj.cells #[(.int .i64 (A p)), (.int .i64 (B p))] 40) ∈ _ from by simp)); obtain ⟨c40, c41, f40, f41, l4⟩ := cv_openF (HS.out.sb _ (show (cb, Obj.cells #[(.slice (some ⟨bu, ou, none⟩) (m + 1) cu), (.slice (some ⟨bv, ov, none⟩) (m + 1) cv)] 24) ∈ _ from by simp)); obtain ⟨c50, c51, c52, l5⟩ := three_open (HS.out.sb _ (show (w.heap.size, Obj.cells #[(.int .i16 lo), (.int .i16 len), (.int .u16 at_)] 37) ∈ _ from by simp)); have cf := HS.out.cf; have lu := cell_lt cf; have o5 := l0))
  have kz2 := hb8.size
  have hN := Lib.hid (HS.out.put (x := .int .i64 b1) (y := .int .i64 b2) (x' := .int .i64 b3) (y' := .int .i64 b4) (L' := [(w8.heap.size, Obj.cells #[(.int .i64 t1), (.int .i64 t2)] 40), (cb, Obj.cells #[(.slice (some ⟨bu, ou, none⟩) (m + 1) cu), (.slice (some ⟨bv, ov, none⟩) (m + 1) cv)] 24)]) (r := w6.heap.size) (T := 40) (by simp) (fun q hq => by
    simp only [List.mem_cons, List.mem_nil_iff, or_false] at hq
    rcases hq with rfl | rfl
    · exact ⟨by simp, by show w8.heap.size ≠ w6.heap.size; omega⟩
    · exact ⟨by simp, by show cb ≠ w6.heap.size; omega⟩) kz (by omega))
  clear c00 c01 f00 f01 l0 c10 c11 f10 f11 l1 c20 c21 f20 f21 l2 c30 c31 f30 f31 l3 c40 c41 f40 f41 l4 c50 c51 c52 l5 cf lu
  obtain ⟨rb, hrb⟩ : ∃ rb, rb = w6.heap.size := ⟨_, rfl⟩
  obtain ⟨rt, hrt⟩ : ∃ rt, rt = w8.heap.size := ⟨_, rfl⟩
  rw [← hrb, ← hrt] at hN ⊢
  generalize (w9.setCell ⟨rb, 0, none⟩ (.int .i64 b3)).setCell ⟨rb, 1, none⟩ (.int .i64 b4) = wA at *
  clear HS hb4 hb5 hb6 hb7 hb8 hb9 o1 o2 o3 o4 o5 kz kz2 KH hh ob hbw hrb hrt n1 n2 n3 mo1 ne1 ne2 bd1 bd2 hq1 hq2 pr BV BT SP
  have HS := hN
  clear hN
  obtain ⟨c00, c01, f00, f01, l0⟩ := cv_openS (HS.out.sb _ (show (rb, Obj.cells #[(.int .i64 b3), (.int .i64 b4)] 40) ∈ _ from by simp)); obtain ⟨c10, c11, f10, f11, l1⟩ := cv_openS (HS.out.sb _ (show (rt, Obj.cells #[(.int .i64 t1), (.int .i64 t2)] 40) ∈ _ from by simp)); obtain ⟨c20, c21, f20, f21, l2⟩ := cv_openF (HS.out.sb _ (show (cb, Obj.cells #[(.slice (some ⟨bu, ou, none⟩) (m + 1) cu), (.slice (some ⟨bv, ov, none⟩) (m + 1) cv)] 24) ∈ _ from by simp)); have cf := HS.out.cf; have lu := cell_lt cf
  replace HT := Lib.hid HT
  have hqt1 : isQ t1 = true := (isQ_iff _).2 (by omega)
  have hqt2 : isQ t2 = true := (isQ_iff _).2 (by omega)
  rcases hg with ⟨rfl, g1, g2, g3⟩ | rfl

  · replace HT := Lib.hid (show ∀ x, x0 ≤ x → x ≤ last → (b3 ≤ x → x ≤ b4 → t1 ≤ A x ∧ B x ≤ t2) ∧ (t1 ≤ A x → B x ≤ t2 → b3 ≤ x ∧ x ≤ b4) from fun x a b => ⟨fun h1 h2 => (HT.out x a b).1 ⟨⟨rfl, h1⟩, h2⟩, fun h1 h2 => ⟨((HT.out x a b).2 ⟨h1, h2⟩).1.2, ((HT.out x a b).2 ⟨h1, h2⟩).2⟩⟩)
    have d1 : decide (b3 < x0) = false := by simp; omega
    have d2 : decide (last < b4) = false := by simp; omega
    have d3 : decide (b4 < b3) = false := by simp; omega
    go_quiet (fail)
    have hN := Lib.hid (HS.out.step (bDrewN (n := nq) (Below.refl _ _)))
    clear c00 c01 f00 f01 l0 c10 c11 f10 f11 l1 c20 c21 f20 f21 l2 cf lu
    clear HS
    have HS := hN
    clear hN
    generalize wA.drewN nq = wB at *
    obtain ⟨c00, c01, f00, f01, l0⟩ := cv_openS (HS.out.sb _ (show (rb, Obj.cells #[(.int .i64 b3), (.int .i64 b4)] 40) ∈ _ from by simp)); obtain ⟨c10, c11, f10, f11, l1⟩ := cv_openS (HS.out.sb _ (show (rt, Obj.cells #[(.int .i64 t1), (.int .i64 t2)] 40) ∈ _ from by simp)); obtain ⟨c20, c21, f20, f21, l2⟩ := cv_openF (HS.out.sb _ (show (cb, Obj.cells #[(.slice (some ⟨bu, ou, none⟩) (m + 1) cu), (.slice (some ⟨bv, ov, none⟩) (m + 1) cv)] 24) ∈ _ from by simp)); have cf := HS.out.cf; have lu := cell_lt cf
    go_wp2_with fail
    go_loopw [21] (fun kk wr => ∃ j : Nat, (j : Int) ≤ last - x0 + 1 ∧ j ≤ 600 ∧ kk = .int .i64 (x0 + (j : Int)) ∧ Hid (BkW w2 [(rb, Obj.cells #[(.int .i64 b3), (.int .i64 b4)] 40), (rt, Obj.cells #[(.int .i64 t1), (.int .i64 t2)] 40), (cb, Obj.cells #[(.slice (some ⟨bu, ou, none⟩) (m + 1) cu), (.slice (some ⟨bv, ov, none⟩) (m + 1) cv)] 24)] bu ou x0 wr)) (fun kk _ => 600 - (intOf kk - x0).toNat)
    case atStart => exact ⟨0, by omega, by omega, by go_num, HS⟩
    case round =>
      obtain ⟨j, hj, hj6, rfl, HW⟩ := hrel
      clear c00 c01 f00 f01 l0 c10 c11 f10 f11 l1 c20 c21 f20 f21 l2 cf lu
      clear HS
      have HS := HW
      clear HW
      obtain ⟨c00, c01, f00, f01, l0⟩ := cv_openS (HS.out.sb _ (show (rb, Obj.cells #[(.int .i64 b3), (.int .i64 b4)] 40) ∈ _ from by simp)); obtain ⟨c10, c11, f10, f11, l1⟩ := cv_openS (HS.out.sb _ (show (rt, Obj.cells #[(.int .i64 t1), (.int .i64 t2)] 40) ∈ _ from by simp)); obtain ⟨c20, c21, f20, f21, l2⟩ := cv_openF (HS.out.sb _ (show (cb, Obj.cells #[(.slice (some ⟨bu, ou, none⟩) (m + 1) cu), (.slice (some ⟨bv, ov, none⟩) (m + 1) cv)] 24) ∈ _ from by simp)); have cf := HS.out.cf; have lu := cell_lt cf
      by_cases hlt : x0 + (j : Int) ≤ last ∧ x0 + (j : Int) < x0 + 600
      · obtain ⟨h1, h2⟩ := hlt
        have hqx : isQ (x0 + (j : Int)) = true := (isQ_iff _).2 (by omega)
        have HTx := HT.out (x0 + (j : Int)) (by omega) h1
        obtain ⟨i1, i2⟩ := HTx
        clear HT
        have lv : ((x0 + (j : Int)) < b3 ∧ A (x0 + (j : Int)) < t1) ∨ ((x0 + (j : Int)) < b3 ∧ t1 ≤ A (x0 + (j : Int)) ∧ t2 < B (x0 + (j : Int))) ∨ (b3 ≤ (x0 + (j : Int)) ∧ b4 < (x0 + (j : Int)) ∧ A (x0 + (j : Int)) < t1) ∨ (b3 ≤ (x0 + (j : Int)) ∧ b4 < (x0 + (j : Int)) ∧ t1 ≤ A (x0 + (j : Int)) ∧ t2 < B (x0 + (j : Int))) ∨ (b3 ≤ (x0 + (j : Int)) ∧ (x0 + (j : Int)) ≤ b4 ∧ t1 ≤ A (x0 + (j : Int)) ∧ B (x0 + (j : Int)) ≤ t2) := by omega
        clear i1 i2
        rcases lv with lv | lv | lv | lv | lv
        · have z1 : ¬ b3 ≤ (x0 + (j : Int)) := by omega
          have z3 : ¬ t1 ≤ A (x0 + (j : Int)) := by omega
          go_wp2_with (go_at_call 14; (with_reducible refine (AT.out _ _ _ _ _ _ (x0 + (j : Int)) wr hqx (HA.out.step HS.out.bel) (HB.out.step HS.out.bel)).mono ?_); rintro e wk ⟨rfl, hbk⟩; have hN := Lib.hid (HS.out.step hbk); clear c00 c01 f00 f01 l0 c10 c11 f10 f11 l1 c20 c21 f20 f21 l2 cf lu; clear HS; have HS := hN; clear hN; obtain ⟨c00, c01, f00, f01, l0⟩ := cv_openS (HS.out.sb _ (show (rb, Obj.cells #[(.int .i64 b3), (.int .i64 b4)] 40) ∈ _ from by simp)); obtain ⟨c10, c11, f10, f11, l1⟩ := cv_openS (HS.out.sb _ (show (rt, Obj.cells #[(.int .i64 t1), (.int .i64 t2)] 40) ∈ _ from by simp)); obtain ⟨c20, c21, f20, f21, l2⟩ := cv_openF (HS.out.sb _ (show (cb, Obj.cells #[(.slice (some ⟨bu, ou, none⟩) (m + 1) cu), (.slice (some ⟨bv, ov, none⟩) (m + 1) cv)] 24) ∈ _ from by simp)); have cf := HS.out.cf; have lu := cell_lt cf)
          go_roundw
          case rel => exact ⟨j + 1, by omega, by omega, by go_num, Lib.hid (HS.out.step bAl'')⟩
          case measure => (simp [intOf]; omega)
        · have z1 : ¬ b3 ≤ (x0 + (j : Int)) := by omega
          have z3 : t1 ≤ A (x0 + (j : Int)) := by omega
          have z4 : ¬ B (x0 + (j : Int)) ≤ t2 := by omega
          go_wp2_with (go_at_call 14; (with_reducible refine (AT.out _ _ _ _ _ _ (x0 + (j : Int)) wr hqx (HA.out.step HS.out.bel) (HB.out.step HS.out.bel)).mono ?_); rintro e wk ⟨rfl, hbk⟩; have hN := Lib.hid (HS.out.step hbk); clear c00 c01 f00 f01 l0 c10 c11 f10 f11 l1 c20 c21 f20 f21 l2 cf lu; clear HS; have HS := hN; clear hN; obtain ⟨c00, c01, f00, f01, l0⟩ := cv_openS (HS.out.sb _ (show (rb, Obj.cells #[(.int .i64 b3), (.int .i64 b4)] 40) ∈ _ from by simp)); obtain ⟨c10, c11, f10, f11, l1⟩ := cv_openS (HS.out.sb _ (show (rt, Obj.cells #[(.int .i64 t1), (.int .i64 t2)] 40) ∈ _ from by simp)); obtain ⟨c20, c21, f20, f21, l2⟩ := cv_openF (HS.out.sb _ (show (cb, Obj.cells #[(.slice (some ⟨bu, ou, none⟩) (m + 1) cu), (.slice (some ⟨bv, ov, none⟩) (m + 1) cv)] 24) ∈ _ from by simp)); have cf := HS.out.cf; have lu := cell_lt cf)
          go_roundw
          case rel => exact ⟨j + 1, by omega, by omega, by go_num, Lib.hid (HS.out.step bAl'')⟩
          case measure => (simp [intOf]; omega)
        · have z1 : b3 ≤ (x0 + (j : Int)) := by omega
          have z2 : ¬ (x0 + (j : Int)) ≤ b4 := by omega
          have z3 : ¬ t1 ≤ A (x0 + (j : Int)) := by omega
          go_wp2_with (go_at_call 14; (with_reducible refine (AT.out _ _ _ _ _ _ (x0 + (j : Int)) wr hqx (HA.out.step HS.out.bel) (HB.out.step HS.out.bel)).mono ?_); rintro e wk ⟨rfl, hbk⟩; have hN := Lib.hid (HS.out.step hbk); clear c00 c01 f00 f01 l0 c10 c11 f10 f11 l1 c20 c21 f20 f21 l2 cf lu; clear HS; have HS := hN; clear hN; obtain ⟨c00, c01, f00, f01, l0⟩ := cv_openS (HS.out.sb _ (show (rb, Obj.cells #[(.int .i64 b3), (.int .i64 b4)] 40) ∈ _ from by simp)); obtain ⟨c10, c11, f10, f11, l1⟩ := cv_openS (HS.out.sb _ (show (rt, Obj.cells #[(.int .i64 t1), (.int .i64 t2)] 40) ∈ _ from by simp)); obtain ⟨c20, c21, f20, f21, l2⟩ := cv_openF (HS.out.sb _ (show (cb, Obj.cells #[(.slice (some ⟨bu, ou, none⟩) (m + 1) cu), (.slice (some ⟨bv, ov, none⟩) (m + 1) cv)] 24) ∈ _ from by simp)); have cf := HS.out.cf; have lu := cell_lt cf)
          go_roundw
          case rel => exact ⟨j + 1, by omega, by omega, by go_num, Lib.hid (HS.out.step bAl'')⟩
          case measure => (simp [intOf]; omega)
        · have z1 : b3 ≤ (x0 + (j : Int)) := by omega
          have z2 : ¬ (x0 + (j : Int)) ≤ b4 := by omega
          have z3 : t1 ≤ A (x0 + (j : Int)) := by omega
          have z4 : ¬ B (x0 + (j : Int)) ≤ t2 := by omega
          have z5 : decide ((x0 + (j : Int)) ≤ b4) = false := by simp; omega
          have z6 : decide (B (x0 + (j : Int)) ≤ t2) = false := by simp; omega
          go_wp2_with (go_at_call 14; (with_reducible refine (AT.out _ _ _ _ _ _ (x0 + (j : Int)) wr hqx (HA.out.step HS.out.bel) (HB.out.step HS.out.bel)).mono ?_); rintro e wk ⟨rfl, hbk⟩; have hN := Lib.hid (HS.out.step hbk); clear c00 c01 f00 f01 l0 c10 c11 f10 f11 l1 c20 c21 f20 f21 l2 cf lu; clear HS; have HS := hN; clear hN; obtain ⟨c00, c01, f00, f01, l0⟩ := cv_openS (HS.out.sb _ (show (rb, Obj.cells #[(.int .i64 b3), (.int .i64 b4)] 40) ∈ _ from by simp)); obtain ⟨c10, c11, f10, f11, l1⟩ := cv_openS (HS.out.sb _ (show (rt, Obj.cells #[(.int .i64 t1), (.int .i64 t2)] 40) ∈ _ from by simp)); obtain ⟨c20, c21, f20, f21, l2⟩ := cv_openF (HS.out.sb _ (show (cb, Obj.cells #[(.slice (some ⟨bu, ou, none⟩) (m + 1) cu), (.slice (some ⟨bv, ov, none⟩) (m + 1) cv)] 24) ∈ _ from by simp)); have cf := HS.out.cf; have lu := cell_lt cf)
          go_roundw
          case rel => exact ⟨j + 1, by omega, by omega, by go_num, Lib.hid (HS.out.step bAl'')⟩
          case measure => (simp [intOf]; omega)
        · have z1 : b3 ≤ (x0 + (j : Int)) := by omega
          have z2 : (x0 + (j : Int)) ≤ b4 := by omega
          have z3 : t1 ≤ A (x0 + (j : Int)) := by omega
          have z4 : B (x0 + (j : Int)) ≤ t2 := by omega
          go_wp2_with (go_at_call 14; (with_reducible refine (AT.out _ _ _ _ _ _ (x0 + (j : Int)) wr hqx (HA.out.step HS.out.bel) (HB.out.step HS.out.bel)).mono ?_); rintro e wk ⟨rfl, hbk⟩; have hN := Lib.hid (HS.out.step hbk); clear c00 c01 f00 f01 l0 c10 c11 f10 f11 l1 c20 c21 f20 f21 l2 cf lu; clear HS; have HS := hN; clear hN; obtain ⟨c00, c01, f00, f01, l0⟩ := cv_openS (HS.out.sb _ (show (rb, Obj.cells #[(.int .i64 b3), (.int .i64 b4)] 40) ∈ _ from by simp)); obtain ⟨c10, c11, f10, f11, l1⟩ := cv_openS (HS.out.sb _ (show (rt, Obj.cells #[(.int .i64 t1), (.int .i64 t2)] 40) ∈ _ from by simp)); obtain ⟨c20, c21, f20, f21, l2⟩ := cv_openF (HS.out.sb _ (show (cb, Obj.cells #[(.slice (some ⟨bu, ou, none⟩) (m + 1) cu), (.slice (some ⟨bv, ov, none⟩) (m + 1) cv)] 24) ∈ _ from by simp)); have cf := HS.out.cf; have lu := cell_lt cf)
          go_roundw
          case rel => exact ⟨j + 1, by omega, by omega, by go_num, Lib.hid (HS.out.step bAl'')⟩
          case measure => (simp [intOf]; omega)
      · have hex : last < x0 + (j : Int) ∨ (x0 + (j : Int) ≤ last ∧ x0 + 600 ≤ x0 + (j : Int)) := by omega
        clear hlt HT
        rcases hex with y1 | ⟨y1, y2⟩
        · have y3 : ¬ x0 + (j : Int) ≤ last := by omega
          go_wp2_with (first | (go_at_call 18; (with_reducible refine (IM.out _ _ _ _ _ _ wr (HA.out.step HS.out.bel) (HB.out.step HS.out.bel)).mono ?_); rintro e wI ⟨rfl, hbI⟩; have hN := Lib.hid (HS.out.step hbI); clear c00 c01 f00 f01 l0 c10 c11 f10 f11 l1 c20 c21 f20 f21 l2 cf lu; clear HS; have HS := hN; clear hN; obtain ⟨c00, c01, f00, f01, l0⟩ := cv_openS (HS.out.sb _ (show (rb, Obj.cells #[(.int .i64 b3), (.int .i64 b4)] 40) ∈ _ from by simp)); obtain ⟨c10, c11, f10, f11, l1⟩ := cv_openS (HS.out.sb _ (show (rt, Obj.cells #[(.int .i64 t1), (.int .i64 t2)] 40) ∈ _ from by simp)); obtain ⟨c20, c21, f20, f21, l2⟩ := cv_openF (HS.out.sb _ (show (cb, Obj.cells #[(.slice (some ⟨bu, ou, none⟩) (m + 1) cu), (.slice (some ⟨bv, ov, none⟩) (m + 1) cv)] 24) ∈ _ from by simp)); have cf := HS.out.cf; have lu := cell_lt cf) | (go_at_call 14; (with_reducible refine (AT.out _ _ _ _ _ _ t1 _ hqt1 (HA.out.step HS.out.new.bel) (HB.out.step HS.out.new.bel)).mono ?_); rintro e wL ⟨rfl, hbL⟩; have hN := Lib.hid (HS.out.box hbL); clear c00 c01 f00 f01 l0 c10 c11 f10 f11 l1 c20 c21 f20 f21 l2 cf lu; clear HS; have HS := hN; clear hN; obtain ⟨c00, c01, f00, f01, l0⟩ := cv_openS (HS.out.sb _ (show (wI.heap.size, Obj.cells #[(.int .i64 (A t1)), (.int .i64 (B t2))] 40) ∈ _ from by simp)); obtain ⟨c10, c11, f10, f11, l1⟩ := cv_openS (HS.out.sb _ (show (rb, Obj.cells #[(.int .i64 b3), (.int .i64 b4)] 40) ∈ _ from by simp)); obtain ⟨c20, c21, f20, f21, l2⟩ := cv_openS (HS.out.sb _ (show (rt, Obj.cells #[(.int .i64 t1), (.int .i64 t2)] 40) ∈ _ from by simp)); obtain ⟨c30, c31, f30, f31, l3⟩ := cv_openF (HS.out.sb _ (show (cb, Obj.cells #[(.slice (some ⟨bu, ou, none⟩) (m + 1) cu), (.slice (some ⟨bv, ov, none⟩) (m + 1) cv)] 24) ∈ _ from by simp)); have cf := HS.out.cf; have lu := cell_lt cf) | (go_at_call 14; (with_reducible refine (AT.out _ _ _ _ _ _ t2 _ hqt2 (HA.out.step HS.out.new.bel) (HB.out.step HS.out.new.bel)).mono ?_); rintro e wH ⟨rfl, hbH⟩; have hN := Lib.hid (HS.out.box hbH); clear c00 c01 f00 f01 l0 c10 c11 f10 f11 l1 c20 c21 f20 f21 l2 c30 c31 f30 f31 l3 cf lu; clear HS; have HS := hN; clear hN; obtain ⟨c00, c01, f00, f01, l0⟩ := cv_openS (HS.out.sb _ (show (wL.heap.size, Obj.cells #[(.int .i64 (A t1)), (.int .i64 (B t1))] 40) ∈ _ from by simp)); obtain ⟨c10, c11, f10, f11, l1⟩ := cv_openS (HS.out.sb _ (show (wI.heap.size, Obj.cells #[(.int .i64 (A t1)), (.int .i64 (B t2))] 40) ∈ _ from by simp)); obtain ⟨c20, c21, f20, f21, l2⟩ := cv_openS (HS.out.sb _ (show (rb, Obj.cells #[(.int .i64 b3), (.int .i64 b4)] 40) ∈ _ from by simp)); obtain ⟨c30, c31, f30, f31, l3⟩ := cv_openS (HS.out.sb _ (show (rt, Obj.cells #[(.int .i64 t1), (.int .i64 t2)] 40) ∈ _ from by simp)); obtain ⟨c40, c41, f40, f41, l4⟩ := cv_openF (HS.out.sb _ (show (cb, Obj.cells #[(.slice (some ⟨bu, ou, none⟩) (m + 1) cu), (.slice (some ⟨bv, ov, none⟩) (m + 1) cv)] 24) ∈ _ from by simp)); have cf := HS.out.cf; have lu := cell_lt cf) | (go_at_call 6; refine (works_any _).mono ?_; rintro e wZ ⟨rfl, hbZ⟩; have hN := Lib.hid (HS.out.box hbZ)))
          go_ret
          exact ⟨rfl, bStep kB.out hN.out.bel⟩
        · have y3 : ¬ x0 + (j : Int) < x0 + 600 := by omega
          go_wp2_with (first | (go_at_call 18; (with_reducible refine (IM.out _ _ _ _ _ _ wr (HA.out.step HS.out.bel) (HB.out.step HS.out.bel)).mono ?_); rintro e wI ⟨rfl, hbI⟩; have hN := Lib.hid (HS.out.step hbI); clear c00 c01 f00 f01 l0 c10 c11 f10 f11 l1 c20 c21 f20 f21 l2 cf lu; clear HS; have HS := hN; clear hN; obtain ⟨c00, c01, f00, f01, l0⟩ := cv_openS (HS.out.sb _ (show (rb, Obj.cells #[(.int .i64 b3), (.int .i64 b4)] 40) ∈ _ from by simp)); obtain ⟨c10, c11, f10, f11, l1⟩ := cv_openS (HS.out.sb _ (show (rt, Obj.cells #[(.int .i64 t1), (.int .i64 t2)] 40) ∈ _ from by simp)); obtain ⟨c20, c21, f20, f21, l2⟩ := cv_openF (HS.out.sb _ (show (cb, Obj.cells #[(.slice (some ⟨bu, ou, none⟩) (m + 1) cu), (.slice (some ⟨bv, ov, none⟩) (m + 1) cv)] 24) ∈ _ from by simp)); have cf := HS.out.cf; have lu := cell_lt cf) | (go_at_call 14; (with_reducible refine (AT.out _ _ _ _ _ _ t1 _ hqt1 (HA.out.step HS.out.new.bel) (HB.out.step HS.out.new.bel)).mono ?_); rintro e wL ⟨rfl, hbL⟩; have hN := Lib.hid (HS.out.box hbL); clear c00 c01 f00 f01 l0 c10 c11 f10 f11 l1 c20 c21 f20 f21 l2 cf lu; clear HS; have HS := hN; clear hN; obtain ⟨c00, c01, f00, f01, l0⟩ := cv_openS (HS.out.sb _ (show (wI.heap.size, Obj.cells #[(.int .i64 (A t1)), (.int .i64 (B t2))] 40) ∈ _ from by simp)); obtain ⟨c10, c11, f10, f11, l1⟩ := cv_openS (HS.out.sb _ (show (rb, Obj.cells #[(.int .i64 b3), (.int .i64 b4)] 40) ∈ _ from by simp)); obtain ⟨c20, c21, f20, f21, l2⟩ := cv_openS (HS.out.sb _ (show (rt, Obj.cells #[(.int .i64 t1), (.int .i64 t2)] 40) ∈ _ from by simp)); obtain ⟨c30, c31, f30, f31, l3⟩ := cv_openF (HS.out.sb _ (show (cb, Obj.cells #[(.slice (some ⟨bu, ou, none⟩) (m + 1) cu), (.slice (some ⟨bv, ov, none⟩) (m + 1) cv)] 24) ∈ _ from by simp)); have cf := HS.out.cf; have lu := cell_lt cf) | (go_at_call 14; (with_reducible refine (AT.out _ _ _ _ _ _ t2 _ hqt2 (HA.out.step HS.out.new.bel) (HB.out.step HS.out.new.bel)).mono ?_); rintro e wH ⟨rfl, hbH⟩; have hN := Lib.hid (HS.out.box hbH); clear c00 c01 f00 f01 l0 c10 c11 f10 f11 l1 c20 c21 f20 f21 l2 c30 c31 f30 f31 l3 cf lu; clear HS; have HS := hN; clear hN; obtain ⟨c00, c01, f00, f01, l0⟩ := cv_openS (HS.out.sb _ (show (wL.heap.size, Obj.cells #[(.int .i64 (A t1)), (.int .i64 (B t1))] 40) ∈ _ from by simp)); obtain ⟨c10, c11, f10, f11, l1⟩ := cv_openS (HS.out.sb _ (show (wI.heap.size, Obj.cells #[(.int .i64 (A t1)), (.int .i64 (B t2))] 40) ∈ _ from by simp)); obtain ⟨c20, c21, f20, f21, l2⟩ := cv_openS (HS.out.sb _ (show (rb, Obj.cells #[(.int .i64 b3), (.int .i64 b4)] 40) ∈ _ from by simp)); obtain ⟨c30, c31, f30, f31, l3⟩ := cv_openS (HS.out.sb _ (show (rt, Obj.cells #[(.int .i64 t1), (.int .i64 t2)] 40) ∈ _ from by simp)); obtain ⟨c40, c41, f40, f41, l4⟩ := cv_openF (HS.out.sb _ (show (cb, Obj.cells #[(.slice (some ⟨bu, ou, none⟩) (m + 1) cu), (.slice (some ⟨bv, ov, none⟩) (m + 1) cv)] 24) ∈ _ from by simp)); have cf := HS.out.cf; have lu := cell_lt cf) | (go_at_call 6; refine (works_any _).mono ?_; rintro e wZ ⟨rfl, hbZ⟩; have hN := Lib.hid (HS.out.box hbZ)))
          go_ret
          exact ⟨rfl, bStep kB.out hN.out.bel⟩
  · replace HT := Lib.hid (show ∀ x, x0 ≤ x → x ≤ last → ¬ (t1 ≤ A x ∧ B x ≤ t2) from fun x a b h => absurd ((HT.out x a b).2 h).1.1 (by decide))
    go_quiet (fail)
    have hN := Lib.hid (HS.out.step (bDrewN (n := nq) (Below.refl _ _)))
    clear c00 c01 f00 f01 l0 c10 c11 f10 f11 l1 c20 c21 f20 f21 l2 cf lu
    clear HS
    have HS := hN
    clear hN
    generalize wA.drewN nq = wB at *
    obtain ⟨c00, c01, f00, f01, l0⟩ := cv_openS (HS.out.sb _ (show (rb, Obj.cells #[(.int .i64 b3), (.int .i64 b4)] 40) ∈ _ from by simp)); obtain ⟨c10, c11, f10, f11, l1⟩ := cv_openS (HS.out.sb _ (show (rt, Obj.cells #[(.int .i64 t1), (.int .i64 t2)] 40) ∈ _ from by simp)); obtain ⟨c20, c21, f20, f21, l2⟩ := cv_openF (HS.out.sb _ (show (cb, Obj.cells #[(.slice (some ⟨bu, ou, none⟩) (m + 1) cu), (.slice (some ⟨bv, ov, none⟩) (m + 1) cv)] 24) ∈ _ from by simp)); have cf := HS.out.cf; have lu := cell_lt cf
    go_wp2_with fail
    go_loopw [21] (fun kk wr => ∃ j : Nat, (j : Int) ≤ last - x0 + 1 ∧ j ≤ 600 ∧ kk = .int .i64 (x0 + (j : Int)) ∧ Hid (BkW w2 [(rb, Obj.cells #[(.int .i64 b3), (.int .i64 b4)] 40), (rt, Obj.cells #[(.int .i64 t1), (.int .i64 t2)] 40), (cb, Obj.cells #[(.slice (some ⟨bu, ou, none⟩) (m + 1) cu), (.slice (some ⟨bv, ov, none⟩) (m + 1) cv)] 24)] bu ou x0 wr)) (fun kk _ => 600 - (intOf kk - x0).toNat)
    case atStart => exact ⟨0, by omega, by omega, by go_num, HS⟩
    case round =>
      obtain ⟨j, hj, hj6, rfl, HW⟩ := hrel
      clear c00 c01 f00 f01 l0 c10 c11 f10 f11 l1 c20 c21 f20 f21 l2 cf lu
      clear HS
      have HS := HW
      clear HW
      obtain ⟨c00, c01, f00, f01, l0⟩ := cv_openS (HS.out.sb _ (show (rb, Obj.cells #[(.int .i64 b3), (.int .i64 b4)] 40) ∈ _ from by simp)); obtain ⟨c10, c11, f10, f11, l1⟩ := cv_openS (HS.out.sb _ (show (rt, Obj.cells #[(.int .i64 t1), (.int .i64 t2)] 40) ∈ _ from by simp)); obtain ⟨c20, c21, f20, f21, l2⟩ := cv_openF (HS.out.sb _ (show (cb, Obj.cells #[(.slice (some ⟨bu, ou, none⟩) (m + 1) cu), (.slice (some ⟨bv, ov, none⟩) (m + 1) cv)] 24) ∈ _ from by simp)); have cf := HS.out.cf; have lu := cell_lt cf
      by_cases hlt : x0 + (j : Int) ≤ last ∧ x0 + (j : Int) < x0 + 600
      · obtain ⟨h1, h2⟩ := hlt
        have hqx : isQ (x0 + (j : Int)) = true := (isQ_iff _).2 (by omega)
        have HTx := HT.out (x0 + (j : Int)) (by omega) h1
        have i1 := HTx
        clear HT
        have lv : (A (x0 + (j : Int)) < t1) ∨ (t1 ≤ A (x0 + (j : Int)) ∧ t2 < B (x0 + (j : Int))) := by omega
        clear i1 HTx
        rcases lv with lv | lv
        · have z3 : ¬ t1 ≤ A (x0 + (j : Int)) := by omega
          go_wp2_with (go_at_call 14; (with_reducible refine (AT.out _ _ _ _ _ _ (x0 + (j : Int)) wr hqx (HA.out.step HS.out.bel) (HB.out.step HS.out.bel)).mono ?_); rintro e wk ⟨rfl, hbk⟩; have hN := Lib.hid (HS.out.step hbk); clear c00 c01 f00 f01 l0 c10 c11 f10 f11 l1 c20 c21 f20 f21 l2 cf lu; clear HS; have HS := hN; clear hN; obtain ⟨c00, c01, f00, f01, l0⟩ := cv_openS (HS.out.sb _ (show (rb, Obj.cells #[(.int .i64 b3), (.int .i64 b4)] 40) ∈ _ from by simp)); obtain ⟨c10, c11, f10, f11, l1⟩ := cv_openS (HS.out.sb _ (show (rt, Obj.cells #[(.int .i64 t1), (.int .i64 t2)] 40) ∈ _ from by simp)); obtain ⟨c20, c21, f20, f21, l2⟩ := cv_openF (HS.out.sb _ (show (cb, Obj.cells #[(.slice (some ⟨bu, ou, none⟩) (m + 1) cu), (.slice (some ⟨bv, ov, none⟩) (m + 1) cv)] 24) ∈ _ from by simp)); have cf := HS.out.cf; have lu := cell_lt cf)
          go_roundw
          case rel => exact ⟨j + 1, by omega, by omega, by go_num, Lib.hid (HS.out.step bAl'')⟩
          case measure => (simp [intOf]; omega)
        · have z3 : t1 ≤ A (x0 + (j : Int)) := by omega
          have z4 : ¬ B (x0 + (j : Int)) ≤ t2 := by omega
          go_wp2_with (go_at_call 14; (with_reducible refine (AT.out _ _ _ _ _ _ (x0 + (j : Int)) wr hqx (HA.out.step HS.out.bel) (HB.out.step HS.out.bel)).mono ?_); rintro e wk ⟨rfl, hbk⟩; have hN := Lib.hid (HS.out.step hbk); clear c00 c01 f00 f01 l0 c10 c11 f10 f11 l1 c20 c21 f20 f21 l2 cf lu; clear HS; have HS := hN; clear hN; obtain ⟨c00, c01, f00, f01, l0⟩ := cv_openS (HS.out.sb _ (show (rb, Obj.cells #[(.int .i64 b3), (.int .i64 b4)] 40) ∈ _ from by simp)); obtain ⟨c10, c11, f10, f11, l1⟩ := cv_openS (HS.out.sb _ (show (rt, Obj.cells #[(.int .i64 t1), (.int .i64 t2)] 40) ∈ _ from by simp)); obtain ⟨c20, c21, f20, f21, l2⟩ := cv_openF (HS.out.sb _ (show (cb, Obj.cells #[(.slice (some ⟨bu, ou, none⟩) (m + 1) cu), (.slice (some ⟨bv, ov, none⟩) (m + 1) cv)] 24) ∈ _ from by simp)); have cf := HS.out.cf; have lu := cell_lt cf)
          go_roundw
          case rel => exact ⟨j + 1, by omega, by omega, by go_num, Lib.hid (HS.out.step bAl'')⟩
          case measure => (simp [intOf]; omega)
      · have hex : last < x0 + (j : Int) ∨ (x0 + (j : Int) ≤ last ∧ x0 + 600 ≤ x0 + (j : Int)) := by omega
        clear hlt HT
        rcases hex with y1 | ⟨y1, y2⟩
        · have y3 : ¬ x0 + (j : Int) ≤ last := by omega
          go_wp2_with (first | (go_at_call 18; (with_reducible refine (IM.out _ _ _ _ _ _ wr (HA.out.step HS.out.bel) (HB.out.step HS.out.bel)).mono ?_); rintro e wI ⟨rfl, hbI⟩; have hN := Lib.hid (HS.out.step hbI); clear c00 c01 f00 f01 l0 c10 c11 f10 f11 l1 c20 c21 f20 f21 l2 cf lu; clear HS; have HS := hN; clear hN; obtain ⟨c00, c01, f00, f01, l0⟩ := cv_openS (HS.out.sb _ (show (rb, Obj.cells #[(.int .i64 b3), (.int .i64 b4)] 40) ∈ _ from by simp)); obtain ⟨c10, c11, f10, f11, l1⟩ := cv_openS (HS.out.sb _ (show (rt, Obj.cells #[(.int .i64 t1), (.int .i64 t2)] 40) ∈ _ from by simp)); obtain ⟨c20, c21, f20, f21, l2⟩ := cv_openF (HS.out.sb _ (show (cb, Obj.cells #[(.slice (some ⟨bu, ou, none⟩) (m + 1) cu), (.slice (some ⟨bv, ov, none⟩) (m + 1) cv)] 24) ∈ _ from by simp)); have cf := HS.out.cf; have lu := cell_lt cf) | (go_at_call 14; (with_reducible refine (AT.out _ _ _ _ _ _ t1 _ hqt1 (HA.out.step HS.out.new.bel) (HB.out.step HS.out.new.bel)).mono ?_); rintro e wL ⟨rfl, hbL⟩; have hN := Lib.hid (HS.out.box hbL); clear c00 c01 f00 f01 l0 c10 c11 f10 f11 l1 c20 c21 f20 f21 l2 cf lu; clear HS; have HS := hN; clear hN; obtain ⟨c00, c01, f00, f01, l0⟩ := cv_openS (HS.out.sb _ (show (wI.heap.size, Obj.cells #[(.int .i64 (A t1)), (.int .i64 (B t2))] 40) ∈ _ from by simp)); obtain ⟨c10, c11, f10, f11, l1⟩ := cv_openS (HS.out.sb _ (show (rb, Obj.cells #[(.int .i64 b3), (.int .i64 b4)] 40) ∈ _ from by simp)); obtain ⟨c20, c21, f20, f21, l2⟩ := cv_openS (HS.out.sb _ (show (rt, Obj.cells #[(.int .i64 t1), (.int .i64 t2)] 40) ∈ _ from by simp)); obtain ⟨c30, c31, f30, f31, l3⟩ := cv_openF (HS.out.sb _ (show (cb, Obj.cells #[(.slice (some ⟨bu, ou, none⟩) (m + 1) cu), (.slice (some ⟨bv, ov, none⟩) (m + 1) cv)] 24) ∈ _ from by simp)); have cf := HS.out.cf; have lu := cell_lt cf) | (go_at_call 14; (with_reducible refine (AT.out _ _ _ _ _ _ t2 _ hqt2 (HA.out.step HS.out.new.bel) (HB.out.step HS.out.new.bel)).mono ?_); rintro e wH ⟨rfl, hbH⟩; have hN := Lib.hid (HS.out.box hbH); clear c00 c01 f00 f01 l0 c10 c11 f10 f11 l1 c20 c21 f20 f21 l2 c30 c31 f30 f31 l3 cf lu; clear HS; have HS := hN; clear hN; obtain ⟨c00, c01, f00, f01, l0⟩ := cv_openS (HS.out.sb _ (show (wL.heap.size, Obj.cells #[(.int .i64 (A t1)), (.int .i64 (B t1))] 40) ∈ _ from by simp)); obtain ⟨c10, c11, f10, f11, l1⟩ := cv_openS (HS.out.sb _ (show (wI.heap.size, Obj.cells #[(.int .i64 (A t1)), (.int .i64 (B t2))] 40) ∈ _ from by simp)); obtain ⟨c20, c21, f20, f21, l2⟩ := cv_openS (HS.out.sb _ (show (rb, Obj.cells #[(.int .i64 b3), (.int .i64 b4)] 40) ∈ _ from by simp)); obtain ⟨c30, c31, f30, f31, l3⟩ := cv_openS (HS.out.sb _ (show (rt, Obj.cells #[(.int .i64 t1), (.int .i64 t2)] 40) ∈ _ from by simp)); obtain ⟨c40, c41, f40, f41, l4⟩ := cv_openF (HS.out.sb _ (show (cb, Obj.cells #[(.slice (some ⟨bu, ou, none⟩) (m + 1) cu), (.slice (some ⟨bv, ov, none⟩) (m + 1) cv)] 24) ∈ _ from by simp)); have cf := HS.out.cf; have lu := cell_lt cf) | (go_at_call 6; refine (works_any _).mono ?_; rintro e wZ ⟨rfl, hbZ⟩; have hN := Lib.hid (HS.out.box hbZ)))
          go_ret
          exact ⟨rfl, bStep kB.out hN.out.bel⟩
        · have y3 : ¬ x0 + (j : Int) < x0 + 600 := by omega
          go_wp2_with (first | (go_at_call 18; (with_reducible refine (IM.out _ _ _ _ _ _ wr (HA.out.step HS.out.bel) (HB.out.step HS.out.bel)).mono ?_); rintro e wI ⟨rfl, hbI⟩; have hN := Lib.hid (HS.out.step hbI); clear c00 c01 f00 f01 l0 c10 c11 f10 f11 l1 c20 c21 f20 f21 l2 cf lu; clear HS; have HS := hN; clear hN; obtain ⟨c00, c01, f00, f01, l0⟩ := cv_openS (HS.out.sb _ (show (rb, Obj.cells #[(.int .i64 b3), (.int .i64 b4)] 40) ∈ _ from by simp)); obtain ⟨c10, c11, f10, f11, l1⟩ := cv_openS (HS.out.sb _ (show (rt, Obj.cells #[(.int .i64 t1), (.int .i64 t2)] 40) ∈ _ from by simp)); obtain ⟨c20, c21, f20, f21, l2⟩ := cv_openF (HS.out.sb _ (show (cb, Obj.cells #[(.slice (some ⟨bu, ou, none⟩) (m + 1) cu), (.slice (some ⟨bv, ov, none⟩) (m + 1) cv)] 24) ∈ _ from by simp)); have cf := HS.out.cf; have lu := cell_lt cf) | (go_at_call 14; (with_reducible refine (AT.out _ _ _ _ _ _ t1 _ hqt1 (HA.out.step HS.out.new.bel) (HB.out.step HS.out.new.bel)).mono ?_); rintro e wL ⟨rfl, hbL⟩; have hN := Lib.hid (HS.out.box hbL); clear c00 c01 f00 f01 l0 c10 c11 f10 f11 l1 c20 c21 f20 f21 l2 cf lu; clear HS; have HS := hN; clear hN; obtain ⟨c00, c01, f00, f01, l0⟩ := cv_openS (HS.out.sb _ (show (wI.heap.size, Obj.cells #[(.int .i64 (A t1)), (.int .i64 (B t2))] 40) ∈ _ from by simp)); obtain ⟨c10, c11, f10, f11, l1⟩ := cv_openS (HS.out.sb _ (show (rb, Obj.cells #[(.int .i64 b3), (.int .i64 b4)] 40) ∈ _ from by simp)); obtain ⟨c20, c21, f20, f21, l2⟩ := cv_openS (HS.out.sb _ (show (rt, Obj.cells #[(.int .i64 t1), (.int .i64 t2)] 40) ∈ _ from by simp)); obtain ⟨c30, c31, f30, f31, l3⟩ := cv_openF (HS.out.sb _ (show (cb, Obj.cells #[(.slice (some ⟨bu, ou, none⟩) (m + 1) cu), (.slice (some ⟨bv, ov, none⟩) (m + 1) cv)] 24) ∈ _ from by simp)); have cf := HS.out.cf; have lu := cell_lt cf) | (go_at_call 14; (with_reducible refine (AT.out _ _ _ _ _ _ t2 _ hqt2 (HA.out.step HS.out.new.bel) (HB.out.step HS.out.new.bel)).mono ?_); rintro e wH ⟨rfl, hbH⟩; have hN := Lib.hid (HS.out.box hbH); clear c00 c01 f00 f01 l0 c10 c11 f10 f11 l1 c20 c21 f20 f21 l2 c30 c31 f30 f31 l3 cf lu; clear HS; have HS := hN; clear hN; obtain ⟨c00, c01, f00, f01, l0⟩ := cv_openS (HS.out.sb _ (show (wL.heap.size, Obj.cells #[(.int .i64 (A t1)), (.int .i64 (B t1))] 40) ∈ _ from by simp)); obtain ⟨c10, c11, f10, f11, l1⟩ := cv_openS (HS.out.sb _ (show (wI.heap.size, Obj.cells #[(.int .i64 (A t1)), (.int .i64 (B t2))] 40) ∈ _ from by simp)); obtain ⟨c20, c21, f20, f21, l2⟩ := cv_openS (HS.out.sb _ (show (rb, Obj.cells #[(.int .i64 b3), (.int .i64 b4)] 40) ∈ _ from by simp)); obtain ⟨c30, c31, f30, f31, l3⟩ := cv_openS (HS.out.sb _ (show (rt, Obj.cells #[(.int .i64 t1), (.int .i64 t2)] 40) ∈ _ from by simp)); obtain ⟨c40, c41, f40, f41, l4⟩ := cv_openF (HS.out.sb _ (show (cb, Obj.cells #[(.slice (some ⟨bu, ou, none⟩) (m + 1) cu), (.slice (some ⟨bv, ov, none⟩) (m + 1) cv)] 24) ∈ _ from by simp)); have cf := HS.out.cf; have lu := cell_lt cf) | (go_at_call 6; refine (works_any _).mono ?_; rintro e wZ ⟨rfl, hbZ⟩; have hN := Lib.hid (HS.out.box hbZ)))
          go_ret
          exact ⟨rfl, bStep kB.out hN.out.bel⟩
end Go.Proofs.Ytngnehlmbipabaa
