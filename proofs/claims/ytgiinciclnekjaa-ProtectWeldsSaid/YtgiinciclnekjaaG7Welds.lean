/-
  The examples of the statements about package protect: works answers true, in any world.
-/
import Derived.Test.YtgiinciclnekjaaG5Welds
set_option linter.unusedSimpArgs false
set_option linter.unusedVariables false
namespace Go.Proofs.Ytgiinciclnekjaa
open Sx Go.RowKit
set_option maxRecDepth 100000
/-- The functions that write into memory that they are handed. -/
def wr5 : List Nat := [105, 106, 108, 66, 68, 69, 70, 71, 72, 73, 94, 20, 80, 36, 37]
theorem works5_eval : okT (evFn tbl wr5 (fun _ => none) 300 12 16 [] st0) = true := by kernel_rfl
theorem works5_any (w : World) : Calls Try.prog 16 #[] w fun en w' => en = .returned (.bool true) ∧ Below w.heap.size w w' :=
  true_any tbl_ok tbl_any spNone (args := []) (fun _ h => by cases h) works5_eval w
end Go.Proofs.Ytgiinciclnekjaa
