/-
  Check of both sides, at every guard.
-/
import Derived.Test.YtgiinciclnekjaaG5Welds
set_option linter.unusedSimpArgs false
set_option linter.unusedVariables false
namespace Go.Proofs.Ytgiinciclnekjaa
open Sx Go.RowKit
set_option maxRecDepth 100000
theorem chkR_eval (n : Nat → Int) : res (evFn tbl [] (fun _ => none) 100 8 14 [.agg (symL (fun _ => false) n 0 lsG)] st0) = some ([], .one (.i .i64 (chkR n))) := by kernel_rfl
theorem chkP_eval (n : Nat → Int) : res (evFn tbl [] (fun _ => none) 100 8 15 [.agg (symL (fun _ => false) n 0 lsG)] st0) = some ([], .one (.i .i64 (chkP n))) := by kernel_rfl
end Go.Proofs.Ytgiinciclnekjaa
