/-
  A move, at lag 7.
-/
import Derived.Test.YtgiinciclnekjaaG26Welds
set_option linter.unusedSimpArgs false
set_option linter.unusedVariables false
namespace Go.Proofs.Ytgiinciclnekjaa
open Sx Go.RowKit
set_option maxRecDepth 100000
theorem mv_7_0 (b d : Nat → Bool) (u : Nat → Value) : mvO (mvT b d 7 0 u) = some ((mvF b d 7 0 false (unk u)).map Cv.strip) := by kernel_rfl
theorem mv_7_1 (b d : Nat → Bool) (u : Nat → Value) : mvO (mvT b d 7 1 u) = some ((mvF b d 7 1 false (unk u)).map Cv.strip) := by kernel_rfl
theorem mv_7_2 (b d : Nat → Bool) (u : Nat → Value) : mvO (mvT b d 7 2 u) = some ((mvF b d 7 2 false (unk u)).map Cv.strip) := by kernel_rfl
theorem mv_7_3 (b d : Nat → Bool) (u : Nat → Value) : mvO (mvT b d 7 3 u) = some ((mvF b d 7 3 false (unk u)).map Cv.strip) := by kernel_rfl
theorem mv_7_4 (b d : Nat → Bool) (u : Nat → Value) : mvO (mvT b d 7 4 u) = some ((mvF b d 7 4 false (unk u)).map Cv.strip) := by kernel_rfl
theorem mv_7_5 (b d : Nat → Bool) (u : Nat → Value) : mvO (mvT b d 7 5 u) = some ((mvF b d 7 5 false (unk u)).map Cv.strip) := by kernel_rfl
theorem mv_7_6 (b d : Nat → Bool) (u : Nat → Value) : mvO (mvT b d 7 6 u) = some ((mvF b d 7 6 false (unk u)).map Cv.strip) := by kernel_rfl
theorem mv_7_7 (b d : Nat → Bool) (u : Nat → Value) : mvO (mvT b d 7 7 u) = some ((mvF b d 7 7 false (unk u)).map Cv.strip) := by kernel_rfl
end Go.Proofs.Ytgiinciclnekjaa
