/-
  Play: all that is checked, case by case (1).
-/
import Derived.Test.YtgiinciclnekjaaG41Welds
set_option linter.unusedSimpArgs false
set_option linter.unusedVariables false
namespace Go.Proofs.Ytgiinciclnekjaa
open Sx Go.RowKit
set_option maxRecDepth 100000
theorem py_1_0 (B : Bool) (n : Nat → Int) (lag : Int) (len : Nat) (cap : Nat × Nat) (f : Nat → Value) (v : FVal) : pyL 1 0 B n lag len cap f v = pyLX 1 0 B n lag len f v := by kernel_rfl
theorem py_1_1 (B : Bool) (n : Nat → Int) (lag : Int) (len : Nat) (cap : Nat × Nat) (f : Nat → Value) (v : FVal) : pyL 1 1 B n lag len cap f v = pyLX 1 1 B n lag len f v := by kernel_rfl
theorem py_1_2 (B : Bool) (n : Nat → Int) (lag : Int) (len : Nat) (cap : Nat × Nat) (f : Nat → Value) (v : FVal) : pyL 1 2 B n lag len cap f v = pyLX 1 2 B n lag len f v := by kernel_rfl
theorem py_2_0 (B : Bool) (n : Nat → Int) (lag : Int) (len : Nat) (cap : Nat × Nat) (f : Nat → Value) (v : FVal) : pyL 2 0 B n lag len cap f v = pyLX 2 0 B n lag len f v := by kernel_rfl
end Go.Proofs.Ytgiinciclnekjaa
