/-
  The votes of a panel: what is to be shown.
-/
import Derived.Test.YtgiinciclnekjaaVm
import Derived.Test.YtgiinciclnekjaaWt5
import Derived.Test.YtgiinciclnekjaaRl5
set_option linter.unusedSimpArgs false
set_option linter.unusedVariables false
namespace Go.Proofs.Ytgiinciclnekjaa
open Sx Go.RowKit
noncomputable def spL := spR [(114, ruleLess)]
theorem spL_ok : SpOk Try.prog spL := spR_ok ⟨less_ok, trivial⟩
/-- A panel at 1 and its guard at 0. -/
def stP (n : Nat → Int) (b : Nat → Bool) (m : Nat → Int) : St := { tm := [], bk := [(1, .ar 145 true (.ptr 0 (.lit 0) :: symL b m 0 (lsL ++ lsB)) none), (0, .ar 25 true (symL (fun _ => false) n 0 lsG) none)], nx := 2, nl := [], nn := 0, lg := [], vr := [] }
def vpV (n : Nat → Int) (b : Nat → Bool) (m : Nat → Int) (q : Nat) : Vv := .agg [.i .i64 (vLo (us (b 0) (b 18)) (us (b 6) (b 19)) (us (b 12) (b 20)) (m (1 + q)) (m (7 + q)) (m (13 + q)) (n (6 + q))),
  .i .i64 (vHi (us (b 0) (b 18)) (us (b 6) (b 19)) (us (b 12) (b 20)) (m (1 + q)) (m (7 + q)) (m (13 + q)) (n (6 + q))), .b (vOk (us (b 0) (b 18)) (us (b 6) (b 19)) (us (b 12) (b 20)) (m (1 + q)) (m (7 + q)) (m (13 + q)) (n (6 + q)))]
def vrV (n : Nat → Int) (b : Nat → Bool) (m : Nat → Int) (c : Nat → Bool) (q : Nat) : Vv := .tup [(false, [.i .i64 (rLo (sk (b 0) (c 0)) (sk (b 6) (c 1)) (sk (b 12) (c 2)) (m (1 + q)) (m (7 + q)) (m (13 + q)) (n (6 + q)))]),
  (false, [.i .i64 (rHi (sk (b 0) (c 0)) (sk (b 6) (c 1)) (sk (b 12) (c 2)) (m (1 + q)) (m (7 + q)) (m (13 + q)) (n (6 + q)))]), (false, [.b (rOk (sk (b 0) (c 0)) (sk (b 6) (c 1)) (sk (b 12) (c 2)) (m (1 + q)) (m (7 + q)) (m (13 + q)) (n (6 + q)))])]
end Go.Proofs.Ytgiinciclnekjaa
