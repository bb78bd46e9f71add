/-
  panel.vote of quantity 4, at every panel.
-/
import Derived.Test.YtgiinciclnekjaaVp
set_option linter.unusedSimpArgs false
set_option linter.unusedVariables false
namespace Go.Proofs.Ytgiinciclnekjaa
open Sx Go.RowKit
set_option maxRecDepth 100000
theorem vp_eval4 (n : Nat → Int) (b : Nat → Bool) (m : Nat → Int) : res (evFn tbl wr5 spL 300 12 74 [.one (.ptr 1 (.lit 0)), .one (.i .i64 4 true)] (stP n b m)) = some ([], vpV n b m 4) := by kernel_rfl
end Go.Proofs.Ytgiinciclnekjaa
