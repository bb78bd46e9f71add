/-
  The reference's vote of quantity 2, at every guard and channels.
-/
import Derived.Test.YtgiinciclnekjaaG8Welds
set_option linter.unusedSimpArgs false
set_option linter.unusedVariables false
namespace Go.Proofs.Ytgiinciclnekjaa
open Sx Go.RowKit
set_option maxRecDepth 100000
theorem vr_eval2 (n : Nat → Int) (b : Nat → Bool) (m : Nat → Int) (c : Nat → Bool) (z : Nat → Int) : res (evFn tbl [95 + 100000] (fun _ => none) 100 8 76 [.agg (symL (fun _ => false) n 0 lsG), .agg (symL b m 0 lsL), .agg (symL c z 0 lsB), .one (.i .i64 2 true)] st0) = some ([], vrV n b m c 2) := by kernel_rfl
end Go.Proofs.Ytgiinciclnekjaa
