/-
  The rule of XInv for frames that are written out: what a region's operations have left in their slots; boxes that it makes.
-/
import Derived.Test.YtpdhkgfdmpofiaaGreatDoorInv
set_option linter.unusedSimpArgs false
set_option linter.unusedVariables false
namespace Go.Proofs.YtpdhkgfdmpofiaaGreatDoor
open Go.RowKit

/-- A frame with some slots written. -/
def updAll (a : Act) : List (Nat × Value) → Act
  | [] => a
  | (d, v) :: l => (updAll a l).put (some d) v

/-- A box that a region makes (b: it is made; d: it is filled). -/
def BoxF (b d : Bool) (s : Value) (base : Nat) (z c : Array Value) (T : TypeId) (W : World) : Prop :=
  b = true → ∃ r, s = .pointer (some ⟨r, 0, none⟩) ∧ base ≤ r ∧ W.heap[r]? = some (.cells (if d = true then c else z) T (0, 0))
theorem BoxF.step {b d : Bool} {s : Value} {base : Nat} {z c : Array Value} {T : TypeId} {W W2 : World} (h : BoxF b d s base z c T W) (hb : Below W.heap.size W W2) : BoxF b d s base z c T W2 := fun e => by
  obtain ⟨r, h1, h2, h3⟩ := h e
  exact ⟨r, h1, h2, blk_step h3 hb⟩
theorem BoxF.no {d : Bool} {s : Value} {base : Nat} {z c : Array Value} {T : TypeId} {W : World} : BoxF false d s base z c T W := fun e => by cases e
theorem BoxF.new {base : Nat} {z c : Array Value} {T : TypeId} {W : World} (hb : base ≤ W.heap.size) : BoxF true false (.pointer (some ⟨W.heap.size, 0, none⟩)) base z c T (W.alloc (.cells z T)) := fun _ =>
  ⟨_, rfl, hb, by simpa using blk_new W (.cells z T)⟩
theorem BoxF.setFar {b d : Bool} {q : Nat} {s : Value} {base : Nat} {z c : Array Value} {T : TypeId} {W : World} (h : BoxF b d s base z c T W) (hne : b = true → s ≠ .pointer (some ⟨q, 0, none⟩)) (o : Nat) (v : Value) : BoxF b d s base z c T (W.setCell ⟨q, o, none⟩ v) := fun e => by
  obtain ⟨r, h1, h2, h3⟩ := h e
  refine ⟨r, h1, h2, blk_set_other h3 (fun c => ?_)⟩
  exact hne e (by rw [h1]; simp at c; rw [c])
/-- Two boxes of one region are two. -/
def Apart (b b' : Bool) (s s' : Value) : Prop := b = true → b' = true → s ≠ s'
theorem Apart.no {b' : Bool} {s s' : Value} : Apart false b' s s' := fun e => by cases e
theorem Apart.no' {b : Bool} {s s' : Value} : Apart b false s s' := fun _ e => by cases e
theorem Apart.symm {b b' : Bool} {s s' : Value} (h : Apart b b' s s') : Apart b' b s' s := fun e e' c => h e' e c.symm
theorem Apart.new {b' d' : Bool} {s' : Value} {base : Nat} {z c : Array Value} {T : TypeId} {W : World} (h : BoxF b' d' s' base z c T W) : Apart true b' (.pointer (some ⟨W.heap.size, 0, none⟩)) s' := fun _ e c => by
  obtain ⟨r, h1, h2, h3⟩ := h e
  have := blk_lt h3
  rw [h1] at c
  simp at c

section
variable {P : Program} {ops : Array Oper} {Q : Exit → Act → World → Prop}
theorem step_to {i : Nat} {K : Act → World → Prop} {a : Act} {w : World} {a' : Act} {w' : World} (h : ∀ K' : Act → World → Prop, K' a' w' → wpOp P ops Q i K' a w) (hk : K a' w') : wpOp P ops Q i K a w := h K hk
theorem step_ex {i : Nat} {K : Act → World → Prop} {a : Act} {w : World} (C : Act → World → Prop) (h : ∀ K' : Act → World → Prop, (∀ a' w', C a' w' → K' a' w') → wpOp P ops Q i K' a w) (hk : ∀ a' w', C a' w' → K a' w') : wpOp P ops Q i K a w := h K hk
end

end Go.Proofs.YtpdhkgfdmpofiaaGreatDoor
