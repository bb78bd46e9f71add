/-
  The laws of a machine's step from phase 0.
-/
import Derived.Test.YtgiinciclnekjaaG26Welds
set_option linter.unusedSimpArgs false
set_option linter.unusedVariables false
namespace Go.Proofs.Ytgiinciclnekjaa
open Sx Go.RowKit
set_option maxRecDepth 100000
theorem st_bad0 (n : Nat → Int) (b : Nat → Bool) (m : Nat → Int) (h : Nat → Bool) (s : Nat → Int) : bd3 (stT 0 n b m h s) = (bdN n b m h s 0, bdN n b m h s 1, bdN n b m h s 2) := by kernel_rfl
end Go.Proofs.Ytgiinciclnekjaa

/-
  The laws of a machine's step from phase 1.
-/
set_option linter.unusedSimpArgs false
set_option linter.unusedVariables false
namespace Go.Proofs.Ytgiinciclnekjaa
open Sx Go.RowKit
set_option maxRecDepth 100000
theorem st_bad1 (n : Nat → Int) (b : Nat → Bool) (m : Nat → Int) (h : Nat → Bool) (s : Nat → Int) : bd3 (stT 1 n b m h s) = (bdN n b m h s 0, bdN n b m h s 1, bdN n b m h s 2) := by kernel_rfl
end Go.Proofs.Ytgiinciclnekjaa

/-
  The laws of a machine's step from phase 2.
-/
set_option linter.unusedSimpArgs false
set_option linter.unusedVariables false
namespace Go.Proofs.Ytgiinciclnekjaa
open Sx Go.RowKit
set_option maxRecDepth 100000
theorem st_bad2 (n : Nat → Int) (b : Nat → Bool) (m : Nat → Int) (h : Nat → Bool) (s : Nat → Int) : bd3 (stT 2 n b m h s) = (bdN n b m h s 0, bdN n b m h s 1, bdN n b m h s 2) := by kernel_rfl
end Go.Proofs.Ytgiinciclnekjaa

/-
  The laws of a machine's step from phase 3.
-/
set_option linter.unusedSimpArgs false
set_option linter.unusedVariables false
namespace Go.Proofs.Ytgiinciclnekjaa
open Sx Go.RowKit
set_option maxRecDepth 100000
theorem st_bad3 (n : Nat → Int) (b : Nat → Bool) (m : Nat → Int) (h : Nat → Bool) (s : Nat → Int) : bd3 (stT 3 n b m h s) = (bdN n b m h s 0, bdN n b m h s 1, bdN n b m h s 2) := by kernel_rfl
end Go.Proofs.Ytgiinciclnekjaa

/-
  The laws of a machine's step from phase 4.
-/
set_option linter.unusedSimpArgs false
set_option linter.unusedVariables false
namespace Go.Proofs.Ytgiinciclnekjaa
open Sx Go.RowKit
set_option maxRecDepth 100000
theorem st_bad4 (n : Nat → Int) (b : Nat → Bool) (m : Nat → Int) (h : Nat → Bool) (s : Nat → Int) : bd3 (stT 4 n b m h s) = (bdN n b m h s 0, bdN n b m h s 1, bdN n b m h s 2) := by kernel_rfl
end Go.Proofs.Ytgiinciclnekjaa

/-
  The laws of a machine's step from phase 5.
-/
set_option linter.unusedSimpArgs false
set_option linter.unusedVariables false
namespace Go.Proofs.Ytgiinciclnekjaa
open Sx Go.RowKit
set_option maxRecDepth 100000
theorem st_bad5 (n : Nat → Int) (b : Nat → Bool) (m : Nat → Int) (h : Nat → Bool) (s : Nat → Int) : bd3 (stT 5 n b m h s) = (bdN n b m h s 0, bdN n b m h s 1, bdN n b m h s 2) := by kernel_rfl
theorem st_dead (n : Nat → Int) (b : Nat → Bool) (m : Nat → Int) (h : Nat → Bool) (s : Nat → Int) : nOf (stC (stT 5 n b m h s)) 0 = 5 := by kernel_rfl
theorem st_still5 (n : Nat → Int) (b : Nat → Bool) (m : Nat → Int) (h : Nat → Bool) (s : Nat → Int) : (bOf (stA (stT 5 n b m h s)) 0, bOf (stA (stT 5 n b m h s)) 1, bOf (stA (stT 5 n b m h s)) 2) = (bif eS s then false else false, bif eS s then false else false, bif eS s then false else false) := by kernel_rfl
end Go.Proofs.Ytgiinciclnekjaa
