/-
  Small facts on worlds that every walk of this claim uses.
-/
import Derived.WalkKit
import Derived.WalkSpells
import Derived.WalkLawsBesides
import Derived.Deep.QuietTactic
import Derived.BigQuiet
import Derived.Lib.Hide
import Derived.Deep.RegionHeld3
set_option linter.unusedSimpArgs false
set_option linter.unusedVariables false
namespace Go.Proofs.YtpdhkgfdmpofiaaGreatDoor
open Go.RowKit

/-! Contracts that leave the world alone, in a region that draws its order (behind a draw, or behind two). -/
theorem quiet_left {P : Program} {f : FuncId} {args : Array Value} {w : World} {n : Nat} {v : Value}
    (h : Calls P f args (w.drewN n) fun e w' => e = .returned v ∧ w.drewN n = w') : Calls P f args (w.drewN n) fun e w'' => e = .returned v ∧ ∃ m, w'' = w.drewN m :=
  h.mono fun _ _ ⟨he, hm⟩ => ⟨he, n, hm.symm⟩
theorem quiet_add_left {P : Program} {f : FuncId} {args : Array Value} {w : World} {a n : Nat} {v : Value}
    (h : Calls P f args (w.drewN (a + n)) fun e w' => e = .returned v ∧ w.drewN (a + n) = w') :
    Calls P f args (w.drewN (a + n)) fun e w'' => e = .returned v ∧ ∃ m, w'' = w.drewN (a + m) :=
  h.mono fun _ _ ⟨he, hm⟩ => ⟨he, n, hm.symm⟩

/-! What a call leaves of memory. -/
theorem bcell {W w1 : World} (hb : Below W.heap.size W w1) : (∀ b o, b < W.heap.size → w1.cell? ⟨b, o, none⟩ = W.cell? ⟨b, o, none⟩) ∧ (∀ b o, b < W.heap.size → w1.frozen? ⟨b, o, none⟩ = W.frozen? ⟨b, o, none⟩) :=
  ⟨fun b o h => hb.cell (p := ⟨b, o, none⟩) h, fun b o h => hb.frozen (p := ⟨b, o, none⟩) h⟩
theorem bAlloc {w b : World} (h : Below w.heap.size w b) (o : Obj) : Below w.heap.size w (b.alloc o) := h.alloc h.size o
theorem bStep {w b c : World} (h : Below w.heap.size w b) (k : Below b.heap.size b c) : Below w.heap.size w c := h.trans (k.mono h.size)
theorem bSet {w b : World} (h : Below w.heap.size w b) {p : Addr} (hp : w.heap.size ≤ p.block) (v : Value) : Below w.heap.size w (b.setCell p v) := h.setCell hp v
theorem bDrew {B : Nat} {w b : World} (h : Below B w b) : Below B w b.drew := h.drew
theorem bDrewN {B : Nat} {w b : World} {n : Nat} (h : Below B w b) : Below B w (b.drewN n) := ⟨h.os, h.tape, h.output, h.size, h.block⟩

/-! A block that is known whole: behind a store, a new block, a draw. -/
theorem blk_set {w : World} {b o : Nat} {v : Value} {cs : Array Value} {t : TypeId} {fr : Nat × Nat} (h : w.heap[b]? = some (.cells cs t fr)) :
    (w.setCell ⟨b, o, none⟩ v).heap[b]? = some (.cells (cs.setIfInBounds o v) t fr) := by
  simp [World.setCell, Array.getElem?_modify, h]
theorem blk_set_other {w : World} {b : Nat} {p : Addr} {v : Value} {x : Obj} (h : w.heap[b]? = some x) (hne : b ≠ p.block) : (w.setCell p v).heap[b]? = some x :=
  (Below.heap_setCell w p v b hne).trans h
theorem blk_lt {w : World} {b : Nat} {x : Obj} (h : w.heap[b]? = some x) : b < w.heap.size := by
  rcases Nat.lt_or_ge b w.heap.size with h1 | h1
  · exact h1
  · rw [Array.getElem?_eq_none h1] at h; cases h
theorem blk_alloc {w : World} {b : Nat} {o x : Obj} (h : w.heap[b]? = some x) : (w.alloc o).heap[b]? = some x :=
  (Below.heap_alloc w o b (blk_lt h)).trans h
theorem blk_new (w : World) (o : Obj) : (w.alloc o).heap[w.heap.size]? = some o := by
  show (w.heap.push o)[w.heap.size]? = _
  simp
theorem blk_below {B : Nat} {w w1 : World} {b : Nat} {x : Obj} (h : w.heap[b]? = some x) (hb : Below B w w1) (hB : b < B) : w1.heap[b]? = some x := (hb.block b hB).trans h
theorem blk_step {w w1 : World} {b : Nat} {x : Obj} (h : w.heap[b]? = some x) (hb : Below w.heap.size w w1) : w1.heap[b]? = some x := blk_below h hb (blk_lt h)
theorem blk_cell {w : World} {b o : Nat} {cs : Array Value} {t : TypeId} {fr : Nat × Nat} {v : Value} (h : w.heap[b]? = some (.cells cs t fr)) (hv : cs[o]? = some v) : w.cell? ⟨b, o, none⟩ = some v := by
  simp [World.cell?, h, hv]
theorem blk_free {w : World} {b o : Nat} {cs : Array Value} {t : TypeId} (h : w.heap[b]? = some (.cells cs t (0, 0))) : w.frozen? ⟨b, o, none⟩ = false := by
  simp [World.frozen?, h]

/-! Facts on cells that a region keeps: behind a call, a new block, a draw. -/
theorem cell_lt {W : World} {p : Addr} {v : Value} (h : W.cell? p = some v) : p.block < W.heap.size := by
  rcases Nat.lt_or_ge p.block W.heap.size with h1 | h1
  · exact h1
  · simp [World.cell?, Array.getElem?_eq_none h1] at h
theorem cell_step {W w2 : World} {p : Addr} {v : Value} (h : W.cell? p = some v) (hb : Below W.heap.size W w2) : w2.cell? p = some v := (hb.cell (cell_lt h)).trans h
theorem free_step {W w2 : World} {p : Addr} {v : Value} (h : W.cell? p = some v) (hf : W.frozen? p = false) (hb : Below W.heap.size W w2) : w2.frozen? p = false := (hb.frozen (cell_lt h)).trans hf
theorem cell_of_set {W : World} {a p : Addr} {v x : Value} (h : (W.setCell a v).cell? p = some x) : ∃ y, W.cell? p = some y := by
  cases hy : W.cell? p with
  | some y => exact ⟨y, rfl⟩
  | none =>
    exfalso
    revert h hy
    unfold World.cell? World.setCell
    simp only [Array.getElem?_modify]
    by_cases e : a.block = p.block
    · rw [if_pos e]
      cases W.heap[p.block]? with
      | none => simp
      | some o =>
        cases o <;> try simp
        rename_i c t f
        by_cases hp : p.spot.isSome = true <;> by_cases ha : a.spot.isSome = true <;> simp_all
        all_goals
          intros
          rcases Nat.lt_or_ge p.off c.size with h1 | h1
          · first | exact h1 | simp_all
          · simp_all
    · rw [if_neg e]
      intro h1 h2
      simp_all
/-- A box of two cells at r that will be written: whatever it holds. -/
def ResBox (r : Nat) (W : World) : Prop := (∃ x0 x1, W.cell? ⟨r, 0, none⟩ = some x0 ∧ W.cell? ⟨r, 1, none⟩ = some x1) ∧ W.frozen? ⟨r, 0, none⟩ = false ∧ W.frozen? ⟨r, 1, none⟩ = false
theorem ResBox.step {W w2 : World} {r : Nat} (h : ResBox r W) (hb : Below W.heap.size W w2) : ResBox r w2 := by
  obtain ⟨⟨x0, x1, h1, h2⟩, h3, h4⟩ := h
  exact ⟨⟨x0, x1, cell_step h1 hb, cell_step h2 hb⟩, free_step h1 h3 hb, free_step h2 h4 hb⟩
theorem ResBox.set {W : World} {r : Nat} (h : ResBox r W) (v0 v1 : Value) : ResBox r ((W.setCell ⟨r, 0, none⟩ v0).setCell ⟨r, 1, none⟩ v1) := by
  obtain ⟨⟨x0, x1, h1, h2⟩, h3, h4⟩ := h
  refine ⟨⟨v0, v1, ?_, ?_⟩, ?_, ?_⟩ <;> go_simp
/-- A parameter's box of two cells at b, and the result's box of two cells at r. -/
def Box1 (w : World) (b r : Nat) (v0 v1 : Value) (W : World) : Prop :=
  W.cell? ⟨b, 0, none⟩ = some v0 ∧ W.cell? ⟨b, 1, none⟩ = some v1 ∧ ResBox r W ∧ Below w.heap.size w W
theorem Box1.step {w W w2 : World} {b r : Nat} {v0 v1 : Value} (h : Box1 w b r v0 v1 W) (hb : Below W.heap.size W w2) : Box1 w b r v0 v1 w2 := by
  obtain ⟨h1, h2, h3, h7⟩ := h
  exact ⟨cell_step h1 hb, cell_step h2 hb, h3.step hb, bStep h7 hb⟩
theorem Box1.alloc {w W : World} {b r : Nat} {v0 v1 : Value} (h : Box1 w b r v0 v1 W) (o : Obj) : Box1 w b r v0 v1 (W.alloc o) := h.step ((Below.refl _ _).alloc (Nat.le_refl _) o)
theorem Box1.drew {w W : World} {b r : Nat} {v0 v1 : Value} (h : Box1 w b r v0 v1 W) : Box1 w b r v0 v1 W.drew := h.step (Below.refl _ _).drew
theorem cell_set_far {W : World} {b r o o' : Nat} {v x : Value} (h : W.cell? ⟨b, o, none⟩ = some x) (hne : b ≠ r) : (W.setCell ⟨r, o', none⟩ v).cell? ⟨b, o, none⟩ = some x :=
  (World.cell?_of_block (w := W) (Below.heap_setCell W _ _ _ hne)).trans h
theorem Box1.set {w W : World} {b r : Nat} {v0 v1 : Value} (h : Box1 w b r v0 v1 W) (hr : w.heap.size ≤ r) (hne : b ≠ r) (x0 x1 : Value) : Box1 w b r v0 v1 ((W.setCell ⟨r, 0, none⟩ x0).setCell ⟨r, 1, none⟩ x1) := by
  obtain ⟨h1, h2, h3, h7⟩ := h
  exact ⟨cell_set_far (cell_set_far h1 hne) hne, cell_set_far (cell_set_far h2 hne) hne, h3.set x0 x1, bSet (bSet h7 hr _) hr _⟩
/-- Two parameters' boxes at b, c, and the result's at r. -/
def Box2 (w : World) (b c r : Nat) (v0 v1 x0 x1 : Value) (W : World) : Prop :=
  W.cell? ⟨b, 0, none⟩ = some v0 ∧ W.cell? ⟨b, 1, none⟩ = some v1 ∧ W.cell? ⟨c, 0, none⟩ = some x0 ∧ W.cell? ⟨c, 1, none⟩ = some x1 ∧ ResBox r W ∧ Below w.heap.size w W
theorem Box2.step {w W w2 : World} {b c r : Nat} {v0 v1 x0 x1 : Value} (h : Box2 w b c r v0 v1 x0 x1 W) (hb : Below W.heap.size W w2) : Box2 w b c r v0 v1 x0 x1 w2 := by
  obtain ⟨h1, h2, k1, k2, h3, h7⟩ := h
  exact ⟨cell_step h1 hb, cell_step h2 hb, cell_step k1 hb, cell_step k2 hb, h3.step hb, bStep h7 hb⟩
theorem Box2.alloc {w W : World} {b c r : Nat} {v0 v1 x0 x1 : Value} (h : Box2 w b c r v0 v1 x0 x1 W) (o : Obj) : Box2 w b c r v0 v1 x0 x1 (W.alloc o) := h.step ((Below.refl _ _).alloc (Nat.le_refl _) o)
theorem Box2.drew {w W : World} {b c r : Nat} {v0 v1 x0 x1 : Value} (h : Box2 w b c r v0 v1 x0 x1 W) : Box2 w b c r v0 v1 x0 x1 W.drew := h.step (Below.refl _ _).drew
theorem Box2.set {w W : World} {b c r : Nat} {v0 v1 y0 y1 : Value} (h : Box2 w b c r v0 v1 y0 y1 W) (hr : w.heap.size ≤ r) (hne : b ≠ r) (hne2 : c ≠ r) (x0 x1 : Value) : Box2 w b c r v0 v1 y0 y1 ((W.setCell ⟨r, 0, none⟩ x0).setCell ⟨r, 1, none⟩ x1) := by
  obtain ⟨h1, h2, h4, h5, h3, h7⟩ := h
  exact ⟨cell_set_far (cell_set_far h1 hne) hne, cell_set_far (cell_set_far h2 hne) hne, cell_set_far (cell_set_far h4 hne2) hne2, cell_set_far (cell_set_far h5 hne2) hne2, h3.set x0 x1, bSet (bSet h7 hr _) hr _⟩

end Go.Proofs.YtpdhkgfdmpofiaaGreatDoor
