/-
  panel.apart, at every panel.
-/
import Derived.Test.YtgiinciclnekjaaG8Welds
import Derived.Test.YtgiinciclnekjaaG14Welds
set_option linter.unusedSimpArgs false
set_option linter.unusedVariables false
namespace Go.Proofs.Ytgiinciclnekjaa
open Sx Go.RowKit
set_option maxRecDepth 100000
theorem ap_eval (n : Nat → Int) (b : Nat → Bool) (m : Nat → Int) : res (evFn tbl wr5 spL 300 12 64 [.one (.ptr 1 (.lit 0))] (stP n b m)) = some ([], .agg [.b (apP n b m (fun i => b (18 + i)) 0), .b (apP n b m (fun i => b (18 + i)) 1), .b (apP n b m (fun i => b (18 + i)) 2)]) := by kernel_rfl
end Go.Proofs.Ytgiinciclnekjaa
