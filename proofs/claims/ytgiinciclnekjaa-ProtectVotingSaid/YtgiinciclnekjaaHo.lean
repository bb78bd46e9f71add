/-
  panel.holds, panel.current, the reference's holds: at every panel.
-/
import Derived.Test.YtgiinciclnekjaaRv
set_option linter.unusedSimpArgs false
set_option linter.unusedVariables false
namespace Go.Proofs.Ytgiinciclnekjaa
open Sx Go.RowKit
set_option maxRecDepth 100000
def oQ (n : Nat → Int) (h : Nat → Bool) (m : Nat → Int) (c : Nat → Bool) (q : Nat) : Bool := vOk (us (h 0) (c 0)) (us (h 6) (c 1)) (us (h 12) (c 2)) (m (1 + q)) (m (7 + q)) (m (13 + q)) (n (6 + q))
def lQ (n : Nat → Int) (h : Nat → Bool) (m : Nat → Int) (c : Nat → Bool) (q : Nat) : Int := vLo (us (h 0) (c 0)) (us (h 6) (c 1)) (us (h 12) (c 2)) (m (1 + q)) (m (7 + q)) (m (13 + q)) (n (6 + q))
def hQ (n : Nat → Int) (h : Nat → Bool) (m : Nat → Int) (c : Nat → Bool) (q : Nat) : Int := vHi (us (h 0) (c 0)) (us (h 6) (c 1)) (us (h 12) (c 2)) (m (1 + q)) (m (7 + q)) (m (13 + q)) (n (6 + q))
def ho6 (n : Nat → Int) (h : Nat → Bool) (m : Nat → Int) (c : Nat → Bool) : List Bool :=
  [bif oQ n h m c 0 then decide (hQ n h m c 0 > n 0) else false, bif oQ n h m c 1 then decide (lQ n h m c 1 < n 1) else false, bif oQ n h m c 2 then decide (hQ n h m c 2 > n 2) else false,
   bif oQ n h m c 2 then decide (lQ n h m c 2 < IntKind.i64.wrap (0 - n 3)) else false, bif oQ n h m c 3 then decide (hQ n h m c 3 > n 4) else false, bif oQ n h m c 4 then decide (lQ n h m c 4 < n 5) else false]
def noP (n : Nat → Int) (h : Nat → Bool) (m : Nat → Int) (c : Nat → Bool) : Bool :=
  bif bif bif bif bif !oQ n h m c 0 then true else !oQ n h m c 1 then true else !oQ n h m c 2 then true else !oQ n h m c 2 then true else !oQ n h m c 3 then true else !oQ n h m c 4
def hoP (n : Nat → Int) (h : Nat → Bool) (m : Nat → Int) (c : Nat → Bool) : List Bool := ho6 n h m c ++ [noP n h m c]
theorem ho_eval (n : Nat → Int) (b : Nat → Bool) (m : Nat → Int) : res (evFn tbl wr5 spV 300 12 61 [.one (.ptr 1 (.lit 0))] (stP n b m)) = some ([], .agg ((hoP n b m (fun i => b (18 + i))).map Lv.b)) := by kernel_rfl
def cuP (n : Nat → Int) (h : Nat → Bool) (m : Nat → Int) (c : Nat → Bool) : Bool := bif oQ n h m c 2 then (bif decide (hQ n h m c 2 > n 21) then true else decide (lQ n h m c 2 < IntKind.i64.wrap (0 - n 21))) else false
theorem cu_eval (n : Nat → Int) (b : Nat → Bool) (m : Nat → Int) : res (evFn tbl wr5 spV 300 12 62 [.one (.ptr 1 (.lit 0))] (stP n b m)) = some ([], .one (.b (cuP n b m (fun i => b (18 + i))))) := by kernel_rfl
end Go.Proofs.Ytgiinciclnekjaa
