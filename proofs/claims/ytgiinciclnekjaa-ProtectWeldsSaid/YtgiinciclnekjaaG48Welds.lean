/-
  Play: all that is checked, case by case (5).
-/
import Derived.Test.YtgiinciclnekjaaG41Welds
set_option linter.unusedSimpArgs false
set_option linter.unusedVariables false
namespace Go.Proofs.Ytgiinciclnekjaa
open Sx Go.RowKit
set_option maxRecDepth 100000
theorem py_6_1 (B : Bool) (n : Nat → Int) (lag : Int) (len : Nat) (cap : Nat × Nat) (f : Nat → Value) (v : FVal) : pyL 6 1 B n lag len cap f v = pyLX 6 1 B n lag len f v := by kernel_rfl
theorem py_6_2 (B : Bool) (n : Nat → Int) (lag : Int) (len : Nat) (cap : Nat × Nat) (f : Nat → Value) (v : FVal) : pyL 6 2 B n lag len cap f v = pyLX 6 2 B n lag len f v := by kernel_rfl
theorem py_7_0 (B : Bool) (n : Nat → Int) (lag : Int) (len : Nat) (cap : Nat × Nat) (f : Nat → Value) (v : FVal) : pyL 7 0 B n lag len cap f v = pyLX 7 0 B n lag len f v := by kernel_rfl
end Go.Proofs.Ytgiinciclnekjaa
