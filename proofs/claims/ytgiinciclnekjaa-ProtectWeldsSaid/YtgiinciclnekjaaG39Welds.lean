/-
  A machine's step from phase 5, written out.
-/
import Derived.Test.YtgiinciclnekjaaG33Welds
set_option linter.unusedSimpArgs false
set_option linter.unusedVariables false
namespace Go.Proofs.Ytgiinciclnekjaa
open Sx Go.RowKit
set_option maxRecDepth 100000
theorem four5 (n : Nat → Int) (b : Nat → Bool) (m : Nat → Int) (h : Nat → Bool) (s : Nat → Int) : four (stT 5 n b m h s) = (5, bif eS s then m 0 else cW n b m h s, m 14, m 15) := by kernel_rfl
theorem seven5 (n : Nat → Int) (b : Nat → Bool) (m : Nat → Int) (h : Nat → Bool) (s : Nat → Int) : seven (stT 5 n b m h s) = (bif eS s then m 4 else hlN n b m h s 0, bif eS s then m 5 else hlN n b m h s 1, bif eS s then m 6 else hlN n b m h s 2, bif eS s then m 7 else hlN n b m h s 3, bif eS s then m 8 else hlN n b m h s 4, bif eS s then m 9 else hlN n b m h s 5, bif eS s then m 10 else hlN n b m h s 6) := by kernel_rfl
theorem aways5 (n : Nat → Int) (b : Nat → Bool) (m : Nat → Int) (h : Nat → Bool) (s : Nat → Int) : aways (stT 5 n b m h s) = (bif eS s then m 11 else awN n b m h s 0, bif eS s then m 12 else awN n b m h s 1, bif eS s then m 13 else awN n b m h s 2) := by kernel_rfl
theorem acts5 (n : Nat → Int) (b : Nat → Bool) (m : Nat → Int) (h : Nat → Bool) (s : Nat → Int) : acts (stT 5 n b m h s) = (bif eS s then false else dr0 5, bif eS s then false else dr1 5, bif eS s then false else dr2 5, bif eS s then false else true) := by kernel_rfl
end Go.Proofs.Ytgiinciclnekjaa
