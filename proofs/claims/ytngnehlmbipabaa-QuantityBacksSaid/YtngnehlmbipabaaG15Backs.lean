/-
  Two small spans' boxes: what a region keeps that makes two spans of them.
-/
import Derived.Test.YtngnehlmbipabaaG14Backs
import Derived.Test.YtngnehlmbipabaaG5Backs
import Derived.Deep.DeepCutAuto
import Derived.Test.YtngnehlmbipabaaG6Backs
set_option linter.unusedSimpArgs false
set_option linter.unusedVariables false
namespace Go.Proofs.Ytngnehlmbipabaa
open Go.RowKit

/-- The boxes of the first two parameters (at w.heap.size and one further). -/
def SmBox (w : World) (v0 v1 v2 u0 u1 u2 : Value) (W : World) : Prop :=
  W.cell? ⟨w.heap.size, 0, none⟩ = some v0 ∧ W.cell? ⟨w.heap.size, 1, none⟩ = some v1 ∧ W.cell? ⟨w.heap.size, 2, none⟩ = some v2 ∧
  W.cell? ⟨w.heap.size + 1, 0, none⟩ = some u0 ∧ W.cell? ⟨w.heap.size + 1, 1, none⟩ = some u1 ∧ W.cell? ⟨w.heap.size + 1, 2, none⟩ = some u2 ∧ Below w.heap.size w W
theorem SmBox.step {w W w2 : World} {v0 v1 v2 u0 u1 u2 : Value} (hb : Below W.heap.size W w2) (h : SmBox w v0 v1 v2 u0 u1 u2 W) : SmBox w v0 v1 v2 u0 u1 u2 w2 := by
  obtain ⟨h1, h2, h3, h4, h5, h6, h8⟩ := h
  exact ⟨cell_step h1 hb, cell_step h2 hb, cell_step h3 hb, cell_step h4 hb, cell_step h5 hb, cell_step h6 hb, bStep h8 hb⟩
theorem SmBox.alloc {w W : World} {v0 v1 v2 u0 u1 u2 : Value} {o : Obj} (h : SmBox w v0 v1 v2 u0 u1 u2 W) : SmBox w v0 v1 v2 u0 u1 u2 (W.alloc o) := h.step ((Below.refl _ _).alloc (Nat.le_refl _) _)
theorem SmBox.drew {w W : World} {v0 v1 v2 u0 u1 u2 : Value} (h : SmBox w v0 v1 v2 u0 u1 u2 W) : SmBox w v0 v1 v2 u0 u1 u2 W.drew := h.step (Below.refl _ _).drew
theorem SmBox.set {w W : World} {v0 v1 v2 u0 u1 u2 : Value} {r o : Nat} {v : Value} (h : SmBox w v0 v1 v2 u0 u1 u2 W) (hr : w.heap.size + 1 < r) : SmBox w v0 v1 v2 u0 u1 u2 (W.setCell ⟨r, o, none⟩ v) := by
  obtain ⟨h1, h2, h3, h4, h5, h6, h8⟩ := h
  have e : w.heap.size ≠ r := by omega
  have e' : w.heap.size + 1 ≠ r := by omega
  exact ⟨cell_set_far h1 e, cell_set_far h2 e, cell_set_far h3 e, cell_set_far h4 e', cell_set_far h5 e', cell_set_far h6 e', bSet h8 (show w.heap.size ≤ r by omega) _⟩

end Go.Proofs.Ytngnehlmbipabaa

/-
  The walk of the law QuantityMeets.
-/
set_option linter.unusedSimpArgs false
set_option linter.unusedVariables false
namespace Go.Proofs.Ytngnehlmbipabaa
open Go.RowKit

theorem spanOf_ok {lo len : Int} (h1 : -32768 ≤ lo) (h2 : lo ≤ 32767) (h3 : -32768 ≤ len) (h4 : len ≤ 32767) : okS (spanOf lo len) = true := by
  have h := lenOf_bd h3 h4
  exact okS_mk (by omega) (by omega) (by omega)

theorem okS_num {a : Int × Int} : okS a = true ↔ (-1099511627776 ≤ a.1 ∧ a.2 ≤ 1099511627776 ∧ a.1 ≤ a.2) := by
  constructor
  · intro h
    have := okS_bd h
    omega
  · intro h; exact okS_mk (by omega) (by omega) (by omega)
theorem meet_law {a b : Int × Int} (ha : okS a = true) (hb : okS b = true) :
    (((meetS a b).2 = 0 ∧ ∀ n, hasS (meetS a b).1 n = (decide (a.1 ≤ n) && decide (n ≤ a.2) && (decide (b.1 ≤ n) && decide (n ≤ b.2)))) ∨ ((meetS a b).2 = 5 ∧ ∀ n, (decide (a.1 ≤ n) && decide (n ≤ a.2) && (decide (b.1 ≤ n) && decide (n ≤ b.2))) = false)) := by
  have h : (okS a && okS b) = true := by rw [ha, hb]; rfl
  rw [okS_num] at ha hb
  by_cases h2 : min a.2 b.2 < max a.1 b.1
  · right
    rw [meetS_none h h2]
    refine ⟨rfl, fun n => ?_⟩
    rw [Bool.eq_false_iff]
    simp only [ne_eq, Bool.and_eq_true, decide_eq_true_eq]
    omega
  · left
    rw [meetS_yes h h2]
    refine ⟨rfl, fun n => ?_⟩
    have hk : okS (max a.1 b.1, min a.2 b.2) = true := okS_num.2 (by simp only; omega)
    unfold hasS
    rw [hk, Bool.eq_iff_iff]
    simp only [Bool.true_and, Bool.and_eq_true, decide_eq_true_eq]
    omega
theorem hull_law {a b : Int × Int} (ha : okS a = true) (hb : okS b = true) :
    (hullS a b).2 = 0 ∧ ∀ n, (decide (a.1 ≤ n) && decide (n ≤ a.2) || (decide (b.1 ≤ n) && decide (n ≤ b.2))) = true → hasS (hullS a b).1 n = true := by
  have h : (okS a && okS b) = true := by rw [ha, hb]; rfl
  rw [okS_num] at ha hb
  rw [hullS_yes h]
  refine ⟨rfl, fun n hn => ?_⟩
  have hk : okS (min a.1 b.1, max a.2 b.2) = true := okS_num.2 (by simp only; omega)
  unfold hasS
  rw [hk]
  simp only [Bool.true_and, Bool.and_eq_true, Bool.or_eq_true, decide_eq_true_eq] at hn ⊢
  omega

/-- A span's box. -/
def Two (p : Nat) (lo hi : Int) (W : World) : Prop := W.cell? ⟨p, 0, none⟩ = some (.int .i64 lo) ∧ W.cell? ⟨p, 1, none⟩ = some (.int .i64 hi)
theorem Two.step {p : Nat} {lo hi : Int} {W W2 : World} (h : Two p lo hi W) (hb : Below W.heap.size W W2) : Two p lo hi W2 := ⟨cell_step h.1 hb, cell_step h.2 hb⟩
theorem bAl {W : World} {o : Obj} : Below W.heap.size W (W.alloc o) := (Below.refl _ _).alloc (Nat.le_refl _) _
theorem Two.new {W : World} {x y : Int} {T : TypeId} : Two W.heap.size x y (W.alloc (.cells #[.int .i64 x, .int .i64 y] T)) := ⟨by go_simp, by go_simp⟩
def MeSt (w : World) (v0 v1 v2 u0 u1 u2 : Value) (p q m h : Nat) (a b c d : Int × Int) (W : World) : Prop :=
  W.cell? ⟨w.heap.size, 0, none⟩ = some (v0) ∧ W.cell? ⟨w.heap.size, 1, none⟩ = some (v1) ∧ W.cell? ⟨w.heap.size, 2, none⟩ = some (v2) ∧ W.cell? ⟨w.heap.size + 1, 0, none⟩ = some (u0) ∧ W.cell? ⟨w.heap.size + 1, 1, none⟩ = some (u1) ∧ W.cell? ⟨w.heap.size + 1, 2, none⟩ = some (u2) ∧ W.cell? ⟨p, 0, none⟩ = some (.int .i64 a.1) ∧ W.cell? ⟨p, 1, none⟩ = some (.int .i64 a.2) ∧ W.cell? ⟨q, 0, none⟩ = some (.int .i64 b.1) ∧ W.cell? ⟨q, 1, none⟩ = some (.int .i64 b.2) ∧ W.cell? ⟨m, 0, none⟩ = some (.int .i64 c.1) ∧ W.cell? ⟨m, 1, none⟩ = some (.int .i64 c.2) ∧ W.cell? ⟨h, 0, none⟩ = some (.int .i64 d.1) ∧ W.cell? ⟨h, 1, none⟩ = some (.int .i64 d.2) ∧ Below w.heap.size w W
theorem MeSt.step {w W w2 : World} {v0 v1 v2 u0 u1 u2 : Value} {p q m h : Nat} {a b c d : Int × Int} (s : MeSt w v0 v1 v2 u0 u1 u2 p q m h a b c d W) (hb : Below W.heap.size W w2) : MeSt w v0 v1 v2 u0 u1 u2 p q m h a b c d w2 := by
  obtain ⟨h0, h1, h2, h3, h4, h5, h6, h7, h8, h9, i0, i1, i2, i3, i4⟩ := s
  exact ⟨cell_step h0 hb, cell_step h1 hb, cell_step h2 hb, cell_step h3 hb, cell_step h4 hb, cell_step h5 hb, cell_step h6 hb, cell_step h7 hb, cell_step h8 hb, cell_step h9 hb, cell_step i0 hb, cell_step i1 hb, cell_step i2 hb, cell_step i3 hb, bStep i4 hb⟩
theorem MeSt.mk' {w W : World} {v0 v1 v2 u0 u1 u2 : Value} {p q m h : Nat} {a b c d : Int × Int} (s : SmBox w v0 v1 v2 u0 u1 u2 W) (ha : Two p a.1 a.2 W) (hb : Two q b.1 b.2 W) (hc : Two m c.1 c.2 W) (hd : Two h d.1 d.2 W) : MeSt w v0 v1 v2 u0 u1 u2 p q m h a b c d W := by
  obtain ⟨h0, h1, h2, h3, h4, h5, h6⟩ := s
  exact ⟨h0, h1, h2, h3, h4, h5, ha.1, ha.2, hb.1, hb.2, hc.1, hc.2, hd.1, hd.2, h6⟩
/-- A row of nine numbers in memory. -/
def Nine (s : Nat) (W : World) : Prop := ∀ k, k < 9 → ∃ v : Int, W.cell? ⟨s, k, none⟩ = some (.int .i64 v)
theorem Nine.step {s : Nat} {W w2 : World} (h : Nine s W) (hb : Below W.heap.size W w2) : Nine s w2 := fun k hk => (h k hk).imp fun _ e => cell_step e hb
theorem Nine.new {W : World} {a b c d e f g h i : Int} {T : TypeId} : Nine W.heap.size (W.alloc (.cells #[.int .i64 a, .int .i64 b, .int .i64 c, .int .i64 d, .int .i64 e, .int .i64 f, .int .i64 g, .int .i64 h, .int .i64 i] T)) := fun k hk => by
  have : k = 0 ∨ k = 1 ∨ k = 2 ∨ k = 3 ∨ k = 4 ∨ k = 5 ∨ k = 6 ∨ k = 7 ∨ k = 8 := by omega
  rcases this with rfl | rfl | rfl | rfl | rfl | rfl | rfl | rfl | rfl
  · exact ⟨a, by go_simp⟩
  · exact ⟨b, by go_simp⟩
  · exact ⟨c, by go_simp⟩
  · exact ⟨d, by go_simp⟩
  · exact ⟨e, by go_simp⟩
  · exact ⟨f, by go_simp⟩
  · exact ⟨g, by go_simp⟩
  · exact ⟨h, by go_simp⟩
  · exact ⟨i, by go_simp⟩
/-- The row, as a region makes it. -/
def NineF (b : Bool) (s : Value) (W : World) : Prop := b = true → ∃ r, s = .slice (some ⟨r, 0, none⟩) 9 9 ∧ Nine r W
theorem NineF.step {b : Bool} {s : Value} {W w2 : World} (h : NineF b s W) (hb : Below W.heap.size W w2) : NineF b s w2 := fun e => (h e).imp fun _ e => ⟨e.1, e.2.step hb⟩
theorem NineF.no {s : Value} {W : World} : NineF false s W := fun e => by cases e
theorem NineF.new {W : World} {a b c d e f g h i : Int} {T : TypeId} : NineF true (.slice (some ⟨W.heap.size, 0, none⟩) 9 9) (W.alloc (.cells #[.int .i64 a, .int .i64 b, .int .i64 c, .int .i64 d, .int .i64 e, .int .i64 f, .int .i64 g, .int .i64 h, .int .i64 i] T)) := fun _ => ⟨_, rfl, Nine.new⟩
theorem MeSt.drew {w W : World} {v0 v1 v2 u0 u1 u2 : Value} {p q m h : Nat} {a b c d : Int × Int} (s : MeSt w v0 v1 v2 u0 u1 u2 p q m h a b c d W) : MeSt w v0 v1 v2 u0 u1 u2 p q m h a b c d W.drew := s.step (Below.refl _ _).drew

end Go.Proofs.Ytngnehlmbipabaa
