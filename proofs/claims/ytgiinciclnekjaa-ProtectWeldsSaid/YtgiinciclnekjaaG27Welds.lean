/-
  A move, at each lag of at most 2 and each place of the ring.
-/
import Derived.Test.YtgiinciclnekjaaG26Welds
set_option linter.unusedSimpArgs false
set_option linter.unusedVariables false
namespace Go.Proofs.Ytgiinciclnekjaa
open Sx Go.RowKit
set_option maxRecDepth 100000
theorem mv_0_0 (b d : Nat → Bool) (u : Nat → Value) : mvO (mvT b d 0 0 u) = some ((mvF b d 0 0 false (unk u)).map Cv.strip) := by kernel_rfl
theorem mv_1_0 (b d : Nat → Bool) (u : Nat → Value) : mvO (mvT b d 1 0 u) = some ((mvF b d 1 0 false (unk u)).map Cv.strip) := by kernel_rfl
theorem mv_1_1 (b d : Nat → Bool) (u : Nat → Value) : mvO (mvT b d 1 1 u) = some ((mvF b d 1 1 false (unk u)).map Cv.strip) := by kernel_rfl
theorem mv_2_0 (b d : Nat → Bool) (u : Nat → Value) : mvO (mvT b d 2 0 u) = some ((mvF b d 2 0 false (unk u)).map Cv.strip) := by kernel_rfl
theorem mv_2_1 (b d : Nat → Bool) (u : Nat → Value) : mvO (mvT b d 2 1 u) = some ((mvF b d 2 1 false (unk u)).map Cv.strip) := by kernel_rfl
theorem mv_2_2 (b d : Nat → Bool) (u : Nat → Value) : mvO (mvT b d 2 2 u) = some ((mvF b d 2 2 false (unk u)).map Cv.strip) := by kernel_rfl
end Go.Proofs.Ytgiinciclnekjaa
