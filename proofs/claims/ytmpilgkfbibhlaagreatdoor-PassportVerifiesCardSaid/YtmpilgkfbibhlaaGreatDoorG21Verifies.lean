/-
 A drawn region walked in the text's order, one operation at a time, with what follows under lock.
-/
import Derived.Test.YtmpilgkfbibhlaaGreatDoorG15Verifies
set_option linter.unusedSimpArgs false
set_option linter.unusedVariables false
namespace Go.Proofs.YtmpilgkfbibhlaaGreatDoor
open Go.RowKit
structure WQ (P : Program) (ops : Array Oper) (C : World → Prop) (Q : Act → Prop) (l : List Oper) (a : Act) : Prop where
 out : wpQuiet P ops C Q l a
section
variable {P : Program} {ops : Array Oper} {C : World → Prop} {Q : Act → Prop} {a : Act} {o : Oper} {rest : List Oper} {j d : Nat} {want b : Bool} {v : Value}
theorem WQ.nil (h : Q a) : WQ P ops C Q [] a := ⟨wpQuiet_nil h⟩
theorem WQ.skip (hg : o.guard = some (j, want)) (hd : (ops[j]?).bind (·.dst) = some d) (hv : a.tmps[d]? = some (.bool b)) (hb : (b == want) = false) (h : WQ P ops C Q rest (a.put o.dst undef)) : WQ P ops C Q (o :: rest) a := ⟨by
 have hw : Region.wanted o (yielded ops a.tmps) = false := by
  unfold Region.wanted yielded
  rw [hg]
  dsimp only
  rw [hd, Option.bind_some, hv]
  cases b <;> cases want <;> first | rfl | cases hb
 unfold wpQuiet
 rw [hw]
 exact h.out⟩
theorem WQ.val (hg : o.guard = none) (v : Value) (hv : ∀ w, C w → o.quietAt P a C w v) (h : WQ P ops C Q rest (a.put o.dst v)) : WQ P ops C Q (o :: rest) a := ⟨by
 have hw : Region.wanted o (yielded ops a.tmps) = true := by unfold Region.wanted; rw [hg]
 unfold wpQuiet
 rw [hw]
 exact ⟨v, hv, h.out⟩⟩
theorem WQ.valg (hg : o.guard = some (j, want)) (hd : (ops[j]?).bind (·.dst) = some d) (hv : a.tmps[d]? = some (.bool want)) (v : Value) (hq : ∀ w, C w → o.quietAt P a C w v) (h : WQ P ops C Q rest (a.put o.dst v)) : WQ P ops C Q (o :: rest) a := ⟨by
 have hw : Region.wanted o (yielded ops a.tmps) = true := by
  unfold Region.wanted yielded
  rw [hg]
  dsimp only
  rw [hd, Option.bind_some, hv]
  cases want <;> rfl
 unfold wpQuiet
 rw [hw]
 exact ⟨v, hq, h.out⟩⟩
end
theorem wp_region_lock {P : Program} {id : Nat} {Q : Exit → Act → World → Prop} {a : Act} {w : World} {l : List Oper} (hm : P.follows .mixedOrders = true) (hB : Region.lexB .any l.toArray = true)
  (h : WQ P l.toArray (fun W => ∃ s : WStep w, W = s.1) (fun a' => ∀ w', (∃ s : WStep w, w' = s.1) → Q .normal a' w') l a) : (Code.region id l.toArray true).wp P Q a w := wp_region_step hm hB h.out
theorem WQ.fin {P : Program} {ops : Array Oper} {C : World → Prop} {w : World} {Q : Exit → Act → World → Prop} {a : Act} (h : ∀ W, Below w.heap.size w W → Q .normal a W) : WQ P ops C (fun a' => ∀ w', (∃ s : WStep w, w' = s.1) → Q .normal a' w') [] a :=
 WQ.nil fun w' hw => by obtain ⟨s, rfl⟩ := hw; exact h s.1 s.2
end Go.Proofs.YtmpilgkfbibhlaaGreatDoor
