/-
  The reference's apart, at every guard and channels.
-/
import Derived.Test.YtgiinciclnekjaaG17Welds
import Derived.Test.YtgiinciclnekjaaG14Welds
set_option linter.unusedSimpArgs false
set_option linter.unusedVariables false
namespace Go.Proofs.Ytgiinciclnekjaa
open Sx Go.RowKit
set_option maxRecDepth 100000
theorem ar_eval (n : Nat → Int) (b : Nat → Bool) (m : Nat → Int) (c : Nat → Bool) (z : Nat → Int) : res (evFn tbl [78 + 200000] spN 300 12 78 [.agg (symL (fun _ => false) n 0 lsG), .agg (symL b m 0 lsL), .agg (symL c z 0 lsB)] st0) = some ([], .agg [.b (apR n b m c 0), .b (apR n b m c 1), .b (apR n b m c 2)]) := by kernel_rfl
end Go.Proofs.Ytgiinciclnekjaa
