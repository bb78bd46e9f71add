/-
 Rules of the reference's Name and Module.
-/
import Derived.Test.YtmpilgkfbibhlaaGreatDoorG24Verifies
import Derived.Test.YtmpilgkfbibhlaaGreatDoorG10Verifies
set_option linter.unusedSimpArgs false
set_option linter.unusedVariables false
namespace Go.Proofs.YtmpilgkfbibhlaaGreatDoor
open Sx Go.RowKit
def rnRule : List Sv → St → Tree FLeaf
 | [.one (.s v l)], σ => .leaf (.one (.b (nameB v) l), σ)
 | _, _ => .fail
theorem rnRule_ok {args : List Sv} {σ : St} {y : FLeaf} (hy : (rnRule args σ).At y) : FunOk Tryz.prog 48 args σ y.1 y.2 := by
 unfold rnRule at hy
 split at hy
 ·rename_i v l
  obtain rfl : _ = y := hy
  exact FunOk.of_any rfl fun e w => RName_any v w
 ·exact hy.elim
def rmRule : List Sv → St → Tree FLeaf
 | [.one (.s v l)], σ => .must (decide (v.size ≤ 1000000)) (.leaf (.tup [(false, [.s (rmO v) l]), (false, [.b (modB v) l])], σ))
 | _, _ => .fail
theorem rmRule_ok {args : List Sv} {σ : St} {y : FLeaf} (hy : (rmRule args σ).At y) : FunOk Tryz.prog 81 args σ y.1 y.2 := by
 unfold rmRule at hy
 split at hy
 ·rename_i v l
  obtain ⟨h1, h2⟩ := hy
  obtain rfl : _ = y := h2
  exact FunOk.of_any rfl fun e w => RModule_any v w (of_decide_eq_true h1)
 ·exact hy.elim
def spR (f : FuncId) : Option (List Sv → St → Tree FLeaf) := match Nat.beq f 48 with
 | true => some rnRule
 | false => match Nat.beq f 81 with
  | true => some rmRule
  | false => none
theorem spR_ok : SpOk Tryz.prog spR := by
 intro f g hf args σ y hy
 unfold spR at hf
 split at hf
 ·rename_i h; obtain rfl := beq_iff'.1 h
  obtain rfl := Option.some.inj hf; exact rnRule_ok hy
 ·split at hf
  ·rename_i h; obtain rfl := beq_iff'.1 h
   obtain rfl := Option.some.inj hf; exact rmRule_ok hy
  ·cases hf
end Go.Proofs.YtmpilgkfbibhlaaGreatDoor
