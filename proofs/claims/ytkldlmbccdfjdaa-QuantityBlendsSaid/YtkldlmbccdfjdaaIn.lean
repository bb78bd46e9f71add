/-
  The walk of the law's 'in'.
-/
import Derived.Test.YtkldlmbccdfjdaaKp
set_option linter.unusedSimpArgs false
set_option linter.unusedVariables false
namespace Go.Proofs.Ytkldlmbccdfjdaa
open Go.RowKit

theorem pr_bd {a k : Int} (h1 : -34359738368 ≤ a) (h2 : a ≤ 34359738368) (h3 : -131072 ≤ k) (h4 : k ≤ 131072) : -4503599627370496 ≤ a * k ∧ a * k ≤ 4503599627370496 :=
  mul_bd (A := 34359738368) (B := 131072) h1 h2 h3 h4

end Go.Proofs.Ytkldlmbccdfjdaa
