/-
  A move, at lag 3 and each place of the ring.
-/
import Derived.Test.YtgiinciclnekjaaG26Welds
set_option linter.unusedSimpArgs false
set_option linter.unusedVariables false
namespace Go.Proofs.Ytgiinciclnekjaa
open Sx Go.RowKit
set_option maxRecDepth 100000
theorem mv_3_0 (b d : Nat → Bool) (u : Nat → Value) : mvO (mvT b d 3 0 u) = some ((mvF b d 3 0 false (unk u)).map Cv.strip) := by kernel_rfl
theorem mv_3_1 (b d : Nat → Bool) (u : Nat → Value) : mvO (mvT b d 3 1 u) = some ((mvF b d 3 1 false (unk u)).map Cv.strip) := by kernel_rfl
theorem mv_3_2 (b d : Nat → Bool) (u : Nat → Value) : mvO (mvT b d 3 2 u) = some ((mvF b d 3 2 false (unk u)).map Cv.strip) := by kernel_rfl
theorem mv_3_3 (b d : Nat → Bool) (u : Nat → Value) : mvO (mvT b d 3 3 u) = some ((mvF b d 3 3 false (unk u)).map Cv.strip) := by kernel_rfl
end Go.Proofs.Ytgiinciclnekjaa
