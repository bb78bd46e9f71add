/-
  What a region keeps: a list of cells below a bound, and what was in memory.
-/
import Derived.Test.YtkldlmbccdfjdaaInv2
import Derived.Test.YtkldlmbccdfjdaaB2
import Derived.Deep.DeepCutAuto
set_option linter.unusedSimpArgs false
set_option linter.unusedVariables false
namespace Go.Proofs.Ytkldlmbccdfjdaa
open Go.RowKit

/-- The cells of l lie in blocks below B, and hold what l says; nothing that was in memory at w has changed. -/
def Cs (w : World) (B : Nat) (l : List (Nat × Nat × Value)) (W : World) : Prop := (∀ c ∈ l, W.cell? ⟨c.1, c.2.1, none⟩ = some c.2.2 ∧ c.1 < B) ∧ w.heap.size ≤ B ∧ Below w.heap.size w W
theorem Cs.at_ {w W : World} {B p o : Nat} {v : Value} {l : List (Nat × Nat × Value)} (h : Cs w B l W) (hm : (p, o, v) ∈ l) : W.cell? ⟨p, o, none⟩ = some v := (h.1 _ hm).1
theorem Cs.lt {w W : World} {B p o : Nat} {v : Value} {l : List (Nat × Nat × Value)} (h : Cs w B l W) (hm : (p, o, v) ∈ l) : p < B := (h.1 _ hm).2
theorem Cs.bel {w W : World} {B : Nat} {l : List (Nat × Nat × Value)} (h : Cs w B l W) : Below w.heap.size w W := h.2.2
theorem Cs.step {w W w2 : World} {B : Nat} {l : List (Nat × Nat × Value)} (h : Cs w B l W) (hb : Below W.heap.size W w2) : Cs w B l w2 :=
  ⟨fun c hc => ⟨cell_step (h.1 c hc).1 hb, (h.1 c hc).2⟩, h.2.1, bStep h.2.2 hb⟩
theorem Cs.alloc {w W : World} {B : Nat} {l : List (Nat × Nat × Value)} {o : Obj} (h : Cs w B l W) : Cs w B l (W.alloc o) := h.step ((Below.refl _ _).alloc (Nat.le_refl _) _)
theorem Cs.drew {w W : World} {B : Nat} {l : List (Nat × Nat × Value)} (h : Cs w B l W) : Cs w B l W.drew := h.step (Below.refl _ _).drew
theorem Cs.drewN {w W : World} {B n : Nat} {l : List (Nat × Nat × Value)} (h : Cs w B l W) : Cs w B l (W.drewN n) := h.step (bDrewN (Below.refl _ _))
theorem Cs.set {w W : World} {B : Nat} {l : List (Nat × Nat × Value)} {r o : Nat} {v : Value} (h : Cs w B l W) (hr : B ≤ r) : Cs w B l (W.setCell ⟨r, o, none⟩ v) :=
  ⟨fun c hc => ⟨cell_set_far (h.1 c hc).1 (by have := (h.1 c hc).2; omega), (h.1 c hc).2⟩, h.2.1, bSet h.2.2 (show w.heap.size ≤ r by have := h.2.1; omega) _⟩
theorem Cs.nil {w W : World} {B : Nat} (h1 : w.heap.size ≤ B) (h2 : Below w.heap.size w W) : Cs w B [] W := ⟨fun _ h => (by cases h), h1, h2⟩
theorem Cs.cons {w W : World} {B p o : Nat} {v : Value} {l : List (Nat × Nat × Value)} (h : Cs w B l W) (hc : W.cell? ⟨p, o, none⟩ = some v) (hp : p < B) : Cs w B ((p, o, v) :: l) W := by
  refine ⟨fun c hm => ?_, h.2⟩
  rcases List.mem_cons.1 hm with rfl | hm
  · exact ⟨hc, hp⟩
  · exact h.1 c hm
theorem Cs.sub {w W : World} {B B2 : Nat} {l m : List (Nat × Nat × Value)} (h : Cs w B l W) (hs : ∀ c ∈ m, c ∈ l) (hB : B ≤ B2) : Cs w B2 m W :=
  ⟨fun c hm => ⟨(h.1 c (hs c hm)).1, Nat.lt_of_lt_of_le (h.1 c (hs c hm)).2 hB⟩, Nat.le_trans h.2.1 hB, h.2.2⟩
theorem Cs.grow {w W : World} {B : Nat} {l : List (Nat × Nat × Value)} (h : Cs w B l W) : Cs w W.heap.size l W :=
  ⟨fun c hc => ⟨(h.1 c hc).1, cell_lt (h.1 c hc).1⟩, h.2.2.size, h.2.2⟩

end Go.Proofs.Ytkldlmbccdfjdaa
