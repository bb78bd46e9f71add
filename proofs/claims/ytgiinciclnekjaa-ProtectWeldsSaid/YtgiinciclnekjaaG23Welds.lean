/-
  A step of a machine from phase 3.
-/
import Derived.Test.YtgiinciclnekjaaG19Welds
set_option linter.unusedSimpArgs false
set_option linter.unusedVariables false
namespace Go.Proofs.Ytgiinciclnekjaa
open Sx Go.RowKit
set_option maxRecDepth 100000
theorem st_ok3 (n : Nat → Int) (b : Nat → Bool) (m : Nat → Int) (h : Nat → Bool) (s : Nat → Int) : okS (stT 3 n b m h s) = true := by kernel_rfl
end Go.Proofs.Ytgiinciclnekjaa
