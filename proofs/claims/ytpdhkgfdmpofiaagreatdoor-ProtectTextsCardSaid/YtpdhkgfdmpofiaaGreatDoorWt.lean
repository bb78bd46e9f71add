/-
  The examples of the statements about package protect: works answers true. Check of both sides.
-/
import Derived.Test.YtpdhkgfdmpofiaaGreatDoorTbt
import Derived.Test.YtpdhkgfdmpofiaaGreatDoorSxu
import Derived.Test.YtpdhkgfdmpofiaaGreatDoorTr
set_option linter.unusedSimpArgs false
set_option linter.unusedVariables false
namespace Go.Proofs.YtpdhkgfdmpofiaaGreatDoor
open Sx Go.RowKit
set_option maxRecDepth 100000
/-- The functions that write into memory that they are handed. -/
def wr5 : List Nat := [81, 98, 108, 31, 33, 34, 35, 36, 37, 38, 58, 13]
theorem works5_eval : okT (evFn tbl wr5 (fun _ => none) 300 12 4 [] st0) = true := by kernel_rfl
theorem works_any (w : World) (hG : Glob0 w) : Calls Tryz.prog 4 #[] w fun en w' => en = .returned (.bool true) ∧ Below w.heap.size w w' :=
  true_any tbl_ok tbl_any spNone (args := []) (fun _ h => by cases h) works5_eval w hG
end Go.Proofs.YtpdhkgfdmpofiaaGreatDoor
