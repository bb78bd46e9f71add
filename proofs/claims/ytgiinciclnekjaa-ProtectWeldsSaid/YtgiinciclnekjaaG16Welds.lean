/-
  The reference's numbers: a new row, in order.
-/
import Derived.Test.YtgiinciclnekjaaG5Welds
import Derived.Test.YtgiinciclnekjaaG3Welds
set_option linter.unusedSimpArgs false
set_option linter.unusedVariables false
namespace Go.Proofs.Ytgiinciclnekjaa
open Sx Go.RowKit
set_option maxRecDepth 100000
def nuV (b : Nat → Bool) (m : Nat → Int) (c : Nat → Bool) (q : Nat) : Option (List Int) := numR (sk (b 0) (c 0)) (sk (b 6) (c 1)) (sk (b 12) (c 2)) (m (1 + q)) (m (7 + q)) (m (13 + q))
theorem nu_eval0 (b : Nat → Bool) (m : Nat → Int) (c : Nat → Bool) (z : Nat → Int) : rdR (evFn tbl [95 + 100000] (fun _ => none) 100 8 95 [.agg (symL b m 0 lsL), .agg (symL c z 0 lsB), .one (.i .i64 0 true)] st0) = nuV b m c 0 := by kernel_rfl
theorem nu_eval1 (b : Nat → Bool) (m : Nat → Int) (c : Nat → Bool) (z : Nat → Int) : rdR (evFn tbl [95 + 100000] (fun _ => none) 100 8 95 [.agg (symL b m 0 lsL), .agg (symL c z 0 lsB), .one (.i .i64 1 true)] st0) = nuV b m c 1 := by kernel_rfl
theorem nu_eval2 (b : Nat → Bool) (m : Nat → Int) (c : Nat → Bool) (z : Nat → Int) : rdR (evFn tbl [95 + 100000] (fun _ => none) 100 8 95 [.agg (symL b m 0 lsL), .agg (symL c z 0 lsB), .one (.i .i64 2 true)] st0) = nuV b m c 2 := by kernel_rfl
theorem nu_eval3 (b : Nat → Bool) (m : Nat → Int) (c : Nat → Bool) (z : Nat → Int) : rdR (evFn tbl [95 + 100000] (fun _ => none) 100 8 95 [.agg (symL b m 0 lsL), .agg (symL c z 0 lsB), .one (.i .i64 3 true)] st0) = nuV b m c 3 := by kernel_rfl
theorem nu_eval4 (b : Nat → Bool) (m : Nat → Int) (c : Nat → Bool) (z : Nat → Int) : rdR (evFn tbl [95 + 100000] (fun _ => none) 100 8 95 [.agg (symL b m 0 lsL), .agg (symL c z 0 lsB), .one (.i .i64 4 true)] st0) = nuV b m c 4 := by kernel_rfl
end Go.Proofs.Ytgiinciclnekjaa
