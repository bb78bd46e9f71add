/-
  A move, at lag 5 and each place of the ring.
-/
import Derived.Test.YtgiinciclnekjaaG26Welds
set_option linter.unusedSimpArgs false
set_option linter.unusedVariables false
namespace Go.Proofs.Ytgiinciclnekjaa
open Sx Go.RowKit
set_option maxRecDepth 100000
theorem mv_5_0 (b d : Nat → Bool) (u : Nat → Value) : mvO (mvT b d 5 0 u) = some ((mvF b d 5 0 false (unk u)).map Cv.strip) := by kernel_rfl
theorem mv_5_1 (b d : Nat → Bool) (u : Nat → Value) : mvO (mvT b d 5 1 u) = some ((mvF b d 5 1 false (unk u)).map Cv.strip) := by kernel_rfl
theorem mv_5_2 (b d : Nat → Bool) (u : Nat → Value) : mvO (mvT b d 5 2 u) = some ((mvF b d 5 2 false (unk u)).map Cv.strip) := by kernel_rfl
theorem mv_5_3 (b d : Nat → Bool) (u : Nat → Value) : mvO (mvT b d 5 3 u) = some ((mvF b d 5 3 false (unk u)).map Cv.strip) := by kernel_rfl
theorem mv_5_4 (b d : Nat → Bool) (u : Nat → Value) : mvO (mvT b d 5 4 u) = some ((mvF b d 5 4 false (unk u)).map Cv.strip) := by kernel_rfl
theorem mv_5_5 (b d : Nat → Bool) (u : Nat → Value) : mvO (mvT b d 5 5 u) = some ((mvF b d 5 5 false (unk u)).map Cv.strip) := by kernel_rfl
end Go.Proofs.Ytgiinciclnekjaa
