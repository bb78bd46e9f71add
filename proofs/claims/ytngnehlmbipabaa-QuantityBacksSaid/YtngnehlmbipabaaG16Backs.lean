/-
  The walk of the law's 'in'.
-/
import Derived.Test.YtngnehlmbipabaaG5Backs
import Derived.Test.YtngnehlmbipabaaG15Backs
set_option linter.unusedSimpArgs false
set_option linter.unusedVariables false
namespace Go.Proofs.Ytngnehlmbipabaa
open Go.RowKit

theorem pr_bd {a k : Int} (h1 : -34359738368 ≤ a) (h2 : a ≤ 34359738368) (h3 : -131072 ≤ k) (h4 : k ≤ 131072) : -4503599627370496 ≤ a * k ∧ a * k ≤ 4503599627370496 :=
  mul_bd (A := 34359738368) (B := 131072) h1 h2 h3 h4

end Go.Proofs.Ytngnehlmbipabaa

/-
  The states of the laws that compute with two small spans.
-/
set_option linter.unusedSimpArgs false
set_option linter.unusedVariables false
namespace Go.Proofs.Ytngnehlmbipabaa
open Go.RowKit

/-- A span's box that will be written. -/
def Fre (p : Nat) (x y : Int) (W : World) : Prop := W.cell? ⟨p, 0, none⟩ = some (.int .i64 x) ∧ W.cell? ⟨p, 1, none⟩ = some (.int .i64 y) ∧ W.frozen? ⟨p, 0, none⟩ = false ∧ W.frozen? ⟨p, 1, none⟩ = false
theorem Fre.step {p : Nat} {x y : Int} {W W2 : World} (h : Fre p x y W) (hb : Below W.heap.size W W2) : Fre p x y W2 := ⟨cell_step h.1 hb, cell_step h.2.1 hb, free_step h.1 h.2.2.1 hb, free_step h.2.1 h.2.2.2 hb⟩
theorem Fre.new {W : World} {x y : Int} {T : TypeId} : Fre W.heap.size x y (W.alloc (.cells #[.int .i64 x, .int .i64 y] T)) := ⟨by go_simp, by go_simp, by go_simp, by go_simp⟩
theorem Fre.set {p : Nat} {x y : Int} {W : World} (h : Fre p x y W) (u v : Int) : Fre p u v ((W.setCell ⟨p, 0, none⟩ (.int .i64 u)).setCell ⟨p, 1, none⟩ (.int .i64 v)) := by
  obtain ⟨h1, h2, h3, h4⟩ := h
  refine ⟨?_, ?_, ?_, ?_⟩ <;> go_simp
theorem Fre.far {p r : Nat} {x y : Int} {W : World} {u v : Value} (h : Fre p x y W) (hne : p ≠ r) : Fre p x y ((W.setCell ⟨r, 0, none⟩ u).setCell ⟨r, 1, none⟩ v) := by
  obtain ⟨h1, h2, h3, h4⟩ := h
  exact ⟨cell_set_far (cell_set_far h1 hne) hne, cell_set_far (cell_set_far h2 hne) hne, by go_simp, by go_simp⟩
theorem Two.far {p r : Nat} {x y : Int} {W : World} {u v : Value} (h : Two p x y W) (hne : p ≠ r) : Two p x y ((W.setCell ⟨r, 0, none⟩ u).setCell ⟨r, 1, none⟩ v) :=
  ⟨cell_set_far (cell_set_far h.1 hne) hne, cell_set_far (cell_set_far h.2 hne) hne⟩

/-- Two spans, and two boxes that are written. -/
def KeSt (w : World) (p q s t : Nat) (a b c d : Int × Int) (W : World) : Prop :=
  Two p a.1 a.2 W ∧ Two q b.1 b.2 W ∧ Fre s c.1 c.2 W ∧ Fre t d.1 d.2 W ∧ Below w.heap.size w W ∧ (p < s ∧ q < s ∧ s < t ∧ w.heap.size ≤ s)
theorem KeSt.step {w W w2 : World} {p q s t : Nat} {a b c d : Int × Int} (h : KeSt w p q s t a b c d W) (hb : Below W.heap.size W w2) : KeSt w p q s t a b c d w2 := by
  obtain ⟨h1, h2, h3, h4, h5, h6⟩ := h
  exact ⟨h1.step hb, h2.step hb, h3.step hb, h4.step hb, bStep h5 hb, h6⟩
theorem KeSt.setS {w W : World} {p q s t : Nat} {a b c d : Int × Int} (h : KeSt w p q s t a b c d W) (x y : Int) : KeSt w p q s t a b (x, y) d ((W.setCell ⟨s, 0, none⟩ (.int .i64 x)).setCell ⟨s, 1, none⟩ (.int .i64 y)) := by
  obtain ⟨h1, h2, h3, h4, h5, h6, h7, h8, h9⟩ := h
  exact ⟨h1.far (by omega), h2.far (by omega), h3.set x y, h4.far (by omega), bSet (bSet h5 h9 _) h9 _, h6, h7, h8, h9⟩
theorem KeSt.setT {w W : World} {p q s t : Nat} {a b c d : Int × Int} (h : KeSt w p q s t a b c d W) (x y : Int) : KeSt w p q s t a b c (x, y) ((W.setCell ⟨t, 0, none⟩ (.int .i64 x)).setCell ⟨t, 1, none⟩ (.int .i64 y)) := by
  obtain ⟨h1, h2, h3, h4, h5, h6, h7, h8, h9⟩ := h
  have h10 : w.heap.size ≤ t := by omega
  exact ⟨h1.far (by omega), h2.far (by omega), h3.far (by omega), h4.set x y, bSet (bSet h5 h10 _) h10 _, h6, h7, h8, h9⟩

/-- The one that will be written alone. -/
def TiSt (w : World) (p q s : Nat) (a b c : Int × Int) (W : World) : Prop :=
  Two p a.1 a.2 W ∧ Two q b.1 b.2 W ∧ Fre s c.1 c.2 W ∧ Below w.heap.size w W ∧ (p < s ∧ q < s ∧ w.heap.size ≤ s)
theorem TiSt.step {w W w2 : World} {p q s : Nat} {a b c : Int × Int} (h : TiSt w p q s a b c W) (hb : Below W.heap.size W w2) : TiSt w p q s a b c w2 := by
  obtain ⟨h1, h2, h3, h5, h6⟩ := h
  exact ⟨h1.step hb, h2.step hb, h3.step hb, bStep h5 hb, h6⟩
theorem TiSt.setS {w W : World} {p q s : Nat} {a b c : Int × Int} (h : TiSt w p q s a b c W) (x y : Int) : TiSt w p q s a b (x, y) ((W.setCell ⟨s, 0, none⟩ (.int .i64 x)).setCell ⟨s, 1, none⟩ (.int .i64 y)) := by
  obtain ⟨h1, h2, h3, h5, h6, h7, h9⟩ := h
  exact ⟨h1.far (by omega), h2.far (by omega), h3.set x y, bSet (bSet h5 h9 _) h9 _, h6, h7, h9⟩

theorem SmS_of {lo len : Int} (h1 : -32768 ≤ lo) (h2 : lo ≤ 32767) (h3 : -32768 ≤ len) (h4 : len ≤ 32767) : SmS (spanOf lo len) := by
  have h := lenOf_bd h3 h4
  unfold SmS spanOf
  dsimp only
  omega
theorem numOf_bd {lo len at_ : Int} (h3 : -32768 ≤ len) (h4 : len ≤ 32767) : lo ≤ numOf lo len at_ ∧ numOf lo len at_ ≤ lo + lenOf len := by
  have h := lenOf_bd h3 h4
  have h1 := Int.emod_nonneg at_ (show lo + lenOf len - lo + 1 ≠ 0 by omega)
  have h2 := Int.emod_lt_of_pos at_ (show 0 < lo + lenOf len - lo + 1 by omega)
  unfold numOf
  omega

end Go.Proofs.Ytngnehlmbipabaa
