/-
  The reference's holds, at every guard and channels.
-/
import Derived.Test.YtgiinciclnekjaaHo
set_option linter.unusedSimpArgs false
set_option linter.unusedVariables false
namespace Go.Proofs.Ytgiinciclnekjaa
open Sx Go.RowKit
set_option maxRecDepth 100000
def noR (n : Nat → Int) (h : Nat → Bool) (m : Nat → Int) (c : Nat → Bool) : Bool :=
  bif !oQ n h m c 0 then true else bif !oQ n h m c 1 then true else bif !oQ n h m c 2 then true else bif !oQ n h m c 3 then true else !oQ n h m c 4
def hoR (n : Nat → Int) (h : Nat → Bool) (m : Nat → Int) (c : Nat → Bool) : List Bool := ho6 n h m c ++ [noR n h m c]
theorem hr_eval (n : Nat → Int) (b : Nat → Bool) (m : Nat → Int) (c : Nat → Bool) (z : Nat → Int) : res (evFn tbl [] spV 300 12 77 [.agg (symL (fun _ => false) n 0 lsG), .agg (symL b m 0 lsL), .agg (symL c z 0 lsB)] st0) = some ([], .agg ((hoR n b m c).map Lv.b)) := by kernel_rfl
theorem no_eq (n : Nat → Int) (h : Nat → Bool) (m : Nat → Int) (c : Nat → Bool) : noP n h m c = noR n h m c := by
  unfold noP noR
  cases oQ n h m c 0 <;> cases oQ n h m c 1 <;> cases oQ n h m c 2 <;> cases oQ n h m c 3 <;> cases oQ n h m c 4 <;> rfl
theorem ho_eq (n : Nat → Int) (h : Nat → Bool) (m : Nat → Int) (c : Nat → Bool) : hoP n h m c = hoR n h m c := by unfold hoP hoR; rw [no_eq]
end Go.Proofs.Ytgiinciclnekjaa
