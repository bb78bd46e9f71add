/-
  Two small spans' boxes: what a region keeps that makes two spans of them.
-/
import Derived.Test.YtkldlmbccdfjdaaSm
import Derived.Test.YtkldlmbccdfjdaaB2
import Derived.Deep.DeepCutAuto
set_option linter.unusedSimpArgs false
set_option linter.unusedVariables false
namespace Go.Proofs.Ytkldlmbccdfjdaa
open Go.RowKit

/-- The boxes of the first two parameters (at w.heap.size and one further). -/
def SmBox (w : World) (v0 v1 v2 u0 u1 u2 : Value) (W : World) : Prop :=
  W.cell? ⟨w.heap.size, 0, none⟩ = some v0 ∧ W.cell? ⟨w.heap.size, 1, none⟩ = some v1 ∧ W.cell? ⟨w.heap.size, 2, none⟩ = some v2 ∧
  W.cell? ⟨w.heap.size + 1, 0, none⟩ = some u0 ∧ W.cell? ⟨w.heap.size + 1, 1, none⟩ = some u1 ∧ W.cell? ⟨w.heap.size + 1, 2, none⟩ = some u2 ∧ Below w.heap.size w W
theorem SmBox.step {w W w2 : World} {v0 v1 v2 u0 u1 u2 : Value} (hb : Below W.heap.size W w2) (h : SmBox w v0 v1 v2 u0 u1 u2 W) : SmBox w v0 v1 v2 u0 u1 u2 w2 := by
  obtain ⟨h1, h2, h3, h4, h5, h6, h8⟩ := h
  exact ⟨cell_step h1 hb, cell_step h2 hb, cell_step h3 hb, cell_step h4 hb, cell_step h5 hb, cell_step h6 hb, bStep h8 hb⟩
theorem SmBox.alloc {w W : World} {v0 v1 v2 u0 u1 u2 : Value} {o : Obj} (h : SmBox w v0 v1 v2 u0 u1 u2 W) : SmBox w v0 v1 v2 u0 u1 u2 (W.alloc o) := h.step ((Below.refl _ _).alloc (Nat.le_refl _) _)
theorem SmBox.drew {w W : World} {v0 v1 v2 u0 u1 u2 : Value} (h : SmBox w v0 v1 v2 u0 u1 u2 W) : SmBox w v0 v1 v2 u0 u1 u2 W.drew := h.step (Below.refl _ _).drew
theorem SmBox.set {w W : World} {v0 v1 v2 u0 u1 u2 : Value} {r o : Nat} {v : Value} (h : SmBox w v0 v1 v2 u0 u1 u2 W) (hr : w.heap.size + 1 < r) : SmBox w v0 v1 v2 u0 u1 u2 (W.setCell ⟨r, o, none⟩ v) := by
  obtain ⟨h1, h2, h3, h4, h5, h6, h8⟩ := h
  have e : w.heap.size ≠ r := by omega
  have e' : w.heap.size + 1 ≠ r := by omega
  exact ⟨cell_set_far h1 e, cell_set_far h2 e, cell_set_far h3 e, cell_set_far h4 e', cell_set_far h5 e', cell_set_far h6 e', bSet h8 (show w.heap.size ≤ r by omega) _⟩

end Go.Proofs.Ytkldlmbccdfjdaa
