/-
  Drawn regions with calls: the class of the worlds behind a world.
-/
import Derived.Test.YtpdhkgfdmpofiaaGreatDoorB2
import Derived.Deep.QuietTactic
set_option linter.unusedSimpArgs false
set_option linter.unusedVariables false
namespace Go.Proofs.YtpdhkgfdmpofiaaGreatDoor
open Go.RowKit
def WStep (w : World) : Type := { W : World // Below w.heap.size w W }
instance (w : World) : Nonempty (WStep w) := ⟨⟨w, Below.refl _ _⟩⟩
theorem wp_region_step {P : Program} {id : Nat} {Q : Exit → Act → World → Prop} {a : Act} {w : World} {l : List Oper} (hm : P.follows .mixedOrders = true) (hB : Region.lexB .any l.toArray = true)
    (h : wpQuiet P l.toArray (fun W => ∃ s : WStep w, W = s.1) (fun a' => ∀ w', (∃ s : WStep w, w' = s.1) → Q .normal a' w') l a) : (Code.region id l.toArray true).wp P Q a w :=
  wp_region_quiet (C := fun W => ∃ s : WStep w, W = s.1) hm hB ⟨⟨w.drew, (Below.refl _ _).drew⟩, rfl⟩ (by simpa using h)
/-- A contract for each world behind w. -/
theorem step_call {P : Program} {f : FuncId} {args : Array Value} {w : World} {v : Value} (s : WStep w) (h : Calls P f args s.1 fun e w' => e = .returned v ∧ Below s.1.heap.size s.1 w') :
    Calls P f args s.1 fun e w' => e = .returned v ∧ ∃ t : WStep w, w' = t.1 := h.mono fun _ w' q => ⟨q.1, ⟨w', bStep s.2 q.2⟩, rfl⟩
end Go.Proofs.YtpdhkgfdmpofiaaGreatDoor
