/-
  A move, at lag 4 and each place of the ring.
-/
import Derived.Test.YtgiinciclnekjaaG26Welds
set_option linter.unusedSimpArgs false
set_option linter.unusedVariables false
namespace Go.Proofs.Ytgiinciclnekjaa
open Sx Go.RowKit
set_option maxRecDepth 100000
theorem mv_4_0 (b d : Nat → Bool) (u : Nat → Value) : mvO (mvT b d 4 0 u) = some ((mvF b d 4 0 false (unk u)).map Cv.strip) := by kernel_rfl
theorem mv_4_1 (b d : Nat → Bool) (u : Nat → Value) : mvO (mvT b d 4 1 u) = some ((mvF b d 4 1 false (unk u)).map Cv.strip) := by kernel_rfl
theorem mv_4_2 (b d : Nat → Bool) (u : Nat → Value) : mvO (mvT b d 4 2 u) = some ((mvF b d 4 2 false (unk u)).map Cv.strip) := by kernel_rfl
theorem mv_4_3 (b d : Nat → Bool) (u : Nat → Value) : mvO (mvT b d 4 3 u) = some ((mvF b d 4 3 false (unk u)).map Cv.strip) := by kernel_rfl
theorem mv_4_4 (b d : Nat → Bool) (u : Nat → Value) : mvO (mvT b d 4 4 u) = some ((mvF b d 4 4 false (unk u)).map Cv.strip) := by kernel_rfl
end Go.Proofs.Ytgiinciclnekjaa
