/-
  The votes of a panel: what is to be shown.
-/
import Derived.Test.YtgiinciclnekjaaG5Welds
import Derived.Test.YtgiinciclnekjaaG7Welds
set_option linter.unusedSimpArgs false
set_option linter.unusedVariables false
namespace Go.Proofs.Ytgiinciclnekjaa
open Sx Go.RowKit
noncomputable def spL := spR [(114, ruleLess)]
theorem spL_ok : SpOk Try.prog spL := spR_ok ⟨less_ok, trivial⟩
/-- A panel at 1 and its guard at 0. -/
def stP (n : Nat → Int) (b : Nat → Bool) (m : Nat → Int) : St := { tm := [], bk := [(1, .ar 145 true (.ptr 0 (.lit 0) :: symL b m 0 (lsL ++ lsB)) none), (0, .ar 25 true (symL (fun _ => false) n 0 lsG) none)], nx := 2, nl := [], nn := 0, lg := [], vr := [] }
def vpV (n : Nat → Int) (b : Nat → Bool) (m : Nat → Int) (q : Nat) : Vv := .agg [.i .i64 (vLo (us (b 0) (b 18)) (us (b 6) (b 19)) (us (b 12) (b 20)) (m (1 + q)) (m (7 + q)) (m (13 + q)) (n (6 + q))),
  .i .i64 (vHi (us (b 0) (b 18)) (us (b 6) (b 19)) (us (b 12) (b 20)) (m (1 + q)) (m (7 + q)) (m (13 + q)) (n (6 + q))), .b (vOk (us (b 0) (b 18)) (us (b 6) (b 19)) (us (b 12) (b 20)) (m (1 + q)) (m (7 + q)) (m (13 + q)) (n (6 + q)))]
def vrV (n : Nat → Int) (b : Nat → Bool) (m : Nat → Int) (c : Nat → Bool) (q : Nat) : Vv := .tup [(false, [.i .i64 (rLo (sk (b 0) (c 0)) (sk (b 6) (c 1)) (sk (b 12) (c 2)) (m (1 + q)) (m (7 + q)) (m (13 + q)) (n (6 + q)))]),
  (false, [.i .i64 (rHi (sk (b 0) (c 0)) (sk (b 6) (c 1)) (sk (b 12) (c 2)) (m (1 + q)) (m (7 + q)) (m (13 + q)) (n (6 + q)))]), (false, [.b (rOk (sk (b 0) (c 0)) (sk (b 6) (c 1)) (sk (b 12) (c 2)) (m (1 + q)) (m (7 + q)) (m (13 + q)) (n (6 + q)))])]
end Go.Proofs.Ytgiinciclnekjaa

/-
  panel.vote of quantity 0, at every panel.
-/
set_option linter.unusedSimpArgs false
set_option linter.unusedVariables false
namespace Go.Proofs.Ytgiinciclnekjaa
open Sx Go.RowKit
set_option maxRecDepth 100000
theorem vp_eval0 (n : Nat → Int) (b : Nat → Bool) (m : Nat → Int) : res (evFn tbl wr5 spL 300 12 74 [.one (.ptr 1 (.lit 0)), .one (.i .i64 0 true)] (stP n b m)) = some ([], vpV n b m 0) := by kernel_rfl
end Go.Proofs.Ytgiinciclnekjaa

/-
  panel.vote of quantity 1, at every panel.
-/
set_option linter.unusedSimpArgs false
set_option linter.unusedVariables false
namespace Go.Proofs.Ytgiinciclnekjaa
open Sx Go.RowKit
set_option maxRecDepth 100000
theorem vp_eval1 (n : Nat → Int) (b : Nat → Bool) (m : Nat → Int) : res (evFn tbl wr5 spL 300 12 74 [.one (.ptr 1 (.lit 0)), .one (.i .i64 1 true)] (stP n b m)) = some ([], vpV n b m 1) := by kernel_rfl
end Go.Proofs.Ytgiinciclnekjaa

/-
  panel.vote of quantity 2, at every panel.
-/
set_option linter.unusedSimpArgs false
set_option linter.unusedVariables false
namespace Go.Proofs.Ytgiinciclnekjaa
open Sx Go.RowKit
set_option maxRecDepth 100000
theorem vp_eval2 (n : Nat → Int) (b : Nat → Bool) (m : Nat → Int) : res (evFn tbl wr5 spL 300 12 74 [.one (.ptr 1 (.lit 0)), .one (.i .i64 2 true)] (stP n b m)) = some ([], vpV n b m 2) := by kernel_rfl
end Go.Proofs.Ytgiinciclnekjaa

/-
  panel.vote of quantity 3, at every panel.
-/
set_option linter.unusedSimpArgs false
set_option linter.unusedVariables false
namespace Go.Proofs.Ytgiinciclnekjaa
open Sx Go.RowKit
set_option maxRecDepth 100000
theorem vp_eval3 (n : Nat → Int) (b : Nat → Bool) (m : Nat → Int) : res (evFn tbl wr5 spL 300 12 74 [.one (.ptr 1 (.lit 0)), .one (.i .i64 3 true)] (stP n b m)) = some ([], vpV n b m 3) := by kernel_rfl
end Go.Proofs.Ytgiinciclnekjaa

/-
  panel.vote of quantity 4, at every panel.
-/
set_option linter.unusedSimpArgs false
set_option linter.unusedVariables false
namespace Go.Proofs.Ytgiinciclnekjaa
open Sx Go.RowKit
set_option maxRecDepth 100000
theorem vp_eval4 (n : Nat → Int) (b : Nat → Bool) (m : Nat → Int) : res (evFn tbl wr5 spL 300 12 74 [.one (.ptr 1 (.lit 0)), .one (.i .i64 4 true)] (stP n b m)) = some ([], vpV n b m 4) := by kernel_rfl
end Go.Proofs.Ytgiinciclnekjaa
