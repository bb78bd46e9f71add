/-
  A move, at lag 6.
-/
import Derived.Test.YtgiinciclnekjaaG26Welds
set_option linter.unusedSimpArgs false
set_option linter.unusedVariables false
namespace Go.Proofs.Ytgiinciclnekjaa
open Sx Go.RowKit
set_option maxRecDepth 100000
theorem mv_6_0 (b d : Nat → Bool) (u : Nat → Value) : mvO (mvT b d 6 0 u) = some ((mvF b d 6 0 false (unk u)).map Cv.strip) := by kernel_rfl
theorem mv_6_1 (b d : Nat → Bool) (u : Nat → Value) : mvO (mvT b d 6 1 u) = some ((mvF b d 6 1 false (unk u)).map Cv.strip) := by kernel_rfl
theorem mv_6_2 (b d : Nat → Bool) (u : Nat → Value) : mvO (mvT b d 6 2 u) = some ((mvF b d 6 2 false (unk u)).map Cv.strip) := by kernel_rfl
theorem mv_6_3 (b d : Nat → Bool) (u : Nat → Value) : mvO (mvT b d 6 3 u) = some ((mvF b d 6 3 false (unk u)).map Cv.strip) := by kernel_rfl
theorem mv_6_4 (b d : Nat → Bool) (u : Nat → Value) : mvO (mvT b d 6 4 u) = some ((mvF b d 6 4 false (unk u)).map Cv.strip) := by kernel_rfl
theorem mv_6_5 (b d : Nat → Bool) (u : Nat → Value) : mvO (mvT b d 6 5 u) = some ((mvF b d 6 5 false (unk u)).map Cv.strip) := by kernel_rfl
theorem mv_6_6 (b d : Nat → Bool) (u : Nat → Value) : mvO (mvT b d 6 6 u) = some ((mvF b d 6 6 false (unk u)).map Cv.strip) := by kernel_rfl
end Go.Proofs.Ytgiinciclnekjaa
