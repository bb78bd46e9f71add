/-
  A curve that is being made: its box, its two rows; objects that stay.
-/
import Derived.Test.YtkldlmbccdfjdaaRc
import Derived.Maps.AppendAt
import Derived.Below
set_option linter.unusedSimpArgs false
set_option linter.unusedVariables false
namespace Go.Proofs.Ytkldlmbccdfjdaa
open Go.RowKit
def Far (u v : Value) : Prop := ∀ k, u.ownBlock = some k → v.ownBlock = some k → False
theorem Far.symm {u v : Value} (h : Far u v) : Far v u := fun k h1 h2 => h k h2 h1
theorem Far.ne {u v : Value} (h : Far u v) : u.ownBlock = none ∨ u.ownBlock ≠ v.ownBlock := by
  cases hu : u.ownBlock with
  | none => exact Or.inl rfl
  | some k => exact Or.inr fun e => h k hu e.symm
theorem Far.nil {v : Value} : Far (.slice none 0 0) v := fun k h => by cases h
theorem blk_grown {W w' : World} {row : Option Nat} {b : Nat} {x : Obj} (h : W.heap[b]? = some x) (hg : W.grownBy w' row) (hne : some b ≠ row) : w'.heap[b]? = some x := (hg.block b (blk_lt h) hne).trans h
/-- The state: the result's box, the curve's box, objects that stay, the two rows. -/
structure CuQ (w : World) (L : List (Nat × Obj)) (R C B : Nat) (vx vy : Value) (xs ys : List Int) (W : World) : Prop where
  hB : w.heap.size ≤ R ∧ R < B ∧ w.heap.size ≤ C ∧ C < B ∧ R ≠ C
  hL : ∀ p ∈ L, p.1 < B ∧ p.1 ≠ R ∧ p.1 ≠ C
  bel : Below w.heap.size w W
  sz : B ≤ W.heap.size
  rb : W.heap[R]? = some (.cells #[.slice none 0 0, .slice none 0 0] 24)
  cb : W.heap[C]? = some (.cells #[vx, vy] 24)
  sb : ∀ p ∈ L, W.heap[p.1]? = some p.2
  ox : IntOwn W B vx xs
  oy : IntOwn W B vy ys
  far : Far vx vy
theorem CuQ.step {w W w2 : World} {L : List (Nat × Obj)} {R C B : Nat} {vx vy : Value} {xs ys : List Int} (h : CuQ w L R C B vx vy xs ys W) (hb : Below W.heap.size W w2) : CuQ w L R C B vx vy xs ys w2 :=
  ⟨h.hB, h.hL, bStep h.bel hb, Nat.le_trans h.sz hb.size, blk_step h.rb hb, blk_step h.cb hb, fun o e => blk_step (h.sb o e) hb, h.ox.step hb, h.oy.step hb, h.far⟩
theorem CuQ.grow {w W w1 : World} {L : List (Nat × Obj)} {R C B : Nat} {vx vy : Value} {xs ys : List Int} {o : Obj} {row : Option Nat} (h : CuQ w L R C B vx vy xs ys W) (hg : (W.alloc o).grownBy w1 row) (hr : ∀ k, row = some k → B ≤ k) :
    Below w.heap.size w w1 ∧ B ≤ w1.heap.size ∧ w1.heap[R]? = some (.cells #[.slice none 0 0, .slice none 0 0] 24) ∧ w1.heap[C]? = some (.cells #[vx, vy] 24) ∧ (∀ p ∈ L, w1.heap[p.1]? = some p.2) := by
  have hB := h.hB
  have hs := h.sz
  have e : (W.alloc o).heap.size = W.heap.size + 1 := by simp
  refine ⟨(bAlloc h.bel o).grown hg (by have := h.bel.size; omega) fun k hk => by have := hr k hk; omega, Nat.le_trans (by omega) hg.size, blk_grown (blk_alloc h.rb) hg fun e => ?_, blk_grown (blk_alloc h.cb) hg fun e => ?_, fun p hp => blk_grown (blk_alloc (h.sb p hp)) hg fun e => ?_⟩
  · have := hr _ e.symm; omega
  · have := hr _ e.symm; omega
  · have := hr _ e.symm; have := (h.hL p hp).1; omega
theorem own_keep {W : World} {B e s : Nat} {v : Value} {n : Nat} {xs : List Value} (h : W.ownsRow B e s v n xs) {b o : Nat} {u : Value} (hb : b < B) : (W.setCell ⟨b, o, none⟩ u).ownsRow B e s v n xs := ownsRow_setCell_below h hb u
theorem far_app {W : World} {o : Obj} {B : Nat} {a a' v : Value} {ws : List Int} (hv : IntOwn W B v ws) (hf : Far a v) (hat : a'.ownBlock = a.ownBlock ∨ a'.ownBlock = some (W.alloc o).heap.size) : Far a' v := fun k e1 e2 => by
  rcases hat with e | e
  · exact hf k (e.symm.trans e1) e2
  · have := (hv.lt k e2).2
    rw [e] at e1
    simp at e1
    omega
theorem CuQ.appX {w W w1 : World} {L : List (Nat × Obj)} {R C B : Nat} {vx vy vx' : Value} {xs ys : List Int} {o : Obj} {x : Int} (h : CuQ w L R C B vx vy xs ys W) (hown : w1.ownsRow B 2 1 vx' (xs.length + 1) (flatI xs ++ [.int .i64 x])) (hg : (W.alloc o).grownBy w1 vx.ownBlock)
    (hat : vx'.ownBlock = vx.ownBlock ∨ vx'.ownBlock = some (W.alloc o).heap.size) : CuQ w L R C B vx' vy (xs ++ [x]) ys (w1.setCell ⟨C, 0, none⟩ vx') := by
  obtain ⟨g1, g2, g3, g4, g5⟩ := h.grow hg (own_ge h.ox)
  have hB := h.hB
  refine ⟨h.hB, h.hL, g1.setCell (by show w.heap.size ≤ C; omega) _, by simpa using g2, blk_set_other g3 (by show R ≠ C; omega), (blk_set g4).trans rfl, fun p hp => blk_set_other (g5 p hp) (by show p.1 ≠ C; exact (h.hL p hp).2.2), own_keep (IntOwn.more hown) (by omega), own_keep (World.ownsRow.kept (World.ownsRow.alloc h.oy _) hg h.far.symm.ne) (by omega), far_app h.oy h.far hat⟩
theorem CuQ.appY {w W w1 : World} {L : List (Nat × Obj)} {R C B : Nat} {vx vy vy' : Value} {xs ys : List Int} {o : Obj} {y : Int} (h : CuQ w L R C B vx vy xs ys W) (hown : w1.ownsRow B 2 1 vy' (ys.length + 1) (flatI ys ++ [.int .i64 y])) (hg : (W.alloc o).grownBy w1 vy.ownBlock)
    (hat : vy'.ownBlock = vy.ownBlock ∨ vy'.ownBlock = some (W.alloc o).heap.size) : CuQ w L R C B vx vy' xs (ys ++ [y]) (w1.setCell ⟨C, 1, none⟩ vy') := by
  obtain ⟨g1, g2, g3, g4, g5⟩ := h.grow hg (own_ge h.oy)
  have hB := h.hB
  refine ⟨h.hB, h.hL, g1.setCell (by show w.heap.size ≤ C; omega) _, by simpa using g2, blk_set_other g3 (by show R ≠ C; omega), (blk_set g4).trans rfl, fun p hp => blk_set_other (g5 p hp) (by show p.1 ≠ C; exact (h.hL p hp).2.2), own_keep (World.ownsRow.kept (World.ownsRow.alloc h.ox _) hg h.far.ne) (by omega), own_keep (IntOwn.more hown) (by omega), (far_app h.ox h.far.symm hat).symm⟩
/-- What a walk reads of the state. -/
theorem CuQ.open_ {w W : World} {L : List (Nat × Obj)} {R C B : Nat} {vx vy : Value} {xs ys : List Int} (h : CuQ w L R C B vx vy xs ys W) : W.cell? ⟨R, 0, none⟩ = some (.slice none 0 0) ∧ W.cell? ⟨R, 1, none⟩ = some (.slice none 0 0) ∧ W.frozen? ⟨R, 0, none⟩ = false ∧ W.frozen? ⟨R, 1, none⟩ = false ∧
    W.cell? ⟨C, 0, none⟩ = some vx ∧ W.cell? ⟨C, 1, none⟩ = some vy ∧ W.frozen? ⟨C, 0, none⟩ = false ∧ W.frozen? ⟨C, 1, none⟩ = false ∧ C < W.heap.size ∧ R < W.heap.size :=
  ⟨blk_cell h.rb rfl, blk_cell h.rb rfl, blk_free h.rb, blk_free h.rb, blk_cell h.cb rfl, blk_cell h.cb rfl, blk_free h.cb, blk_free h.cb, blk_lt h.cb, blk_lt h.rb⟩
theorem mid_openQ {W : World} {C : Nat} {vx vy : Value} {T : TypeId} (h : W.heap[C]? = some (.cells #[vx, vy] T)) : W.cell? ⟨C, 0, none⟩ = some vx ∧ W.cell? ⟨C, 1, none⟩ = some vy ∧ W.frozen? ⟨C, 0, none⟩ = false ∧ W.frozen? ⟨C, 1, none⟩ = false ∧ C < W.heap.size :=
  ⟨blk_cell h rfl, blk_cell h rfl, blk_free h, blk_free h, blk_lt h⟩
theorem CuQ.done {w W : World} {L : List (Nat × Obj)} {R C B : Nat} {vx vy u v : Value} {xs ys : List Int} (h : CuQ w L R C B vx vy xs ys W) : IntRow vx xs ((W.setCell ⟨R, 0, none⟩ u).setCell ⟨R, 1, none⟩ v) ∧ IntRow vy ys ((W.setCell ⟨R, 0, none⟩ u).setCell ⟨R, 1, none⟩ v) := by
  have hB := h.hB
  exact ⟨IntOwn.row (own_keep (own_keep h.ox (by omega)) (by omega)), IntOwn.row (own_keep (own_keep h.oy (by omega)) (by omega))⟩
end Go.Proofs.Ytkldlmbccdfjdaa
