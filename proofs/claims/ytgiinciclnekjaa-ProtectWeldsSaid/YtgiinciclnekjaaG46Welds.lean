/-
  Play: all that is checked, case by case (3).
-/
import Derived.Test.YtgiinciclnekjaaG41Welds
set_option linter.unusedSimpArgs false
set_option linter.unusedVariables false
namespace Go.Proofs.Ytgiinciclnekjaa
open Sx Go.RowKit
set_option maxRecDepth 100000
theorem py_3_2 (B : Bool) (n : Nat → Int) (lag : Int) (len : Nat) (cap : Nat × Nat) (f : Nat → Value) (v : FVal) : pyL 3 2 B n lag len cap f v = pyLX 3 2 B n lag len f v := by kernel_rfl
theorem py_4_0 (B : Bool) (n : Nat → Int) (lag : Int) (len : Nat) (cap : Nat × Nat) (f : Nat → Value) (v : FVal) : pyL 4 0 B n lag len cap f v = pyLX 4 0 B n lag len f v := by kernel_rfl
theorem py_4_1 (B : Bool) (n : Nat → Int) (lag : Int) (len : Nat) (cap : Nat × Nat) (f : Nat → Value) (v : FVal) : pyL 4 1 B n lag len cap f v = pyLX 4 1 B n lag len f v := by kernel_rfl
theorem py_4_2 (B : Bool) (n : Nat → Int) (lag : Int) (len : Nat) (cap : Nat × Nat) (f : Nat → Value) (v : FVal) : pyL 4 2 B n lag len cap f v = pyLX 4 2 B n lag len f v := by kernel_rfl
end Go.Proofs.Ytgiinciclnekjaa
