/-
  Play: all that is checked, case by case (0).
-/
import Derived.Test.YtgiinciclnekjaaG41Welds
set_option linter.unusedSimpArgs false
set_option linter.unusedVariables false
namespace Go.Proofs.Ytgiinciclnekjaa
open Sx Go.RowKit
set_option maxRecDepth 100000
theorem py_0_0 (B : Bool) (n : Nat → Int) (lag : Int) (len : Nat) (cap : Nat × Nat) (f : Nat → Value) (v : FVal) : pyL 0 0 B n lag len cap f v = pyLX 0 0 B n lag len f v := by kernel_rfl
end Go.Proofs.Ytgiinciclnekjaa
