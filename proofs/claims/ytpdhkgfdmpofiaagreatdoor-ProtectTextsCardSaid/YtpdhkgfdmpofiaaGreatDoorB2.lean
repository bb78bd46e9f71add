/-
  Small facts on worlds, continued.
-/
import Derived.Test.YtpdhkgfdmpofiaaGreatDoorBase
set_option linter.unusedSimpArgs false
set_option linter.unusedVariables false
namespace Go.Proofs.YtpdhkgfdmpofiaaGreatDoor
open Go.RowKit

/-! The same, the step first: for 'by assumption' in this order. -/
theorem cellS {W w2 : World} {p : Addr} {v : Value} (hb : Below W.heap.size W w2) (h : W.cell? p = some v) : w2.cell? p = some v := cell_step h hb
theorem cellA {W : World} {o : Obj} {p : Addr} {v : Value} (h : W.cell? p = some v) : (W.alloc o).cell? p = some v := cell_step h ((Below.refl _ _).alloc (Nat.le_refl _) o)
theorem cellD {W : World} {p : Addr} {v : Value} (h : W.cell? p = some v) : W.drew.cell? p = some v := h
theorem freeS {W w2 : World} {p : Addr} {v : Value} (hb : Below W.heap.size W w2) (h : W.cell? p = some v) (hf : W.frozen? p = false) : w2.frozen? p = false := free_step h hf hb
theorem freeA {W : World} {o : Obj} {p : Addr} {v : Value} (h : W.cell? p = some v) (hf : W.frozen? p = false) : (W.alloc o).frozen? p = false := free_step h hf ((Below.refl _ _).alloc (Nat.le_refl _) o)
theorem freeD {W : World} {p : Addr} (h : W.frozen? p = false) : W.drew.frozen? p = false := h
theorem bStepF {w b c : World} (k : Below b.heap.size b c) (h : Below w.heap.size w b) : Below w.heap.size w c := bStep h k

end Go.Proofs.YtpdhkgfdmpofiaaGreatDoor
