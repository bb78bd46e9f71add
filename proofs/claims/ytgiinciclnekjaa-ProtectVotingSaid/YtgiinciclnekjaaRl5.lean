/-
  Rules of small functions that the statements about package protect reach.
-/
import Derived.Test.YtgiinciclnekjaaTb5
import Derived.Test.YtgiinciclnekjaaSxs
set_option linter.unusedSimpArgs false
set_option linter.unusedVariables false
namespace Go.Proofs.Ytgiinciclnekjaa
open Sx Go.RowKit
set_option maxRecDepth 100000
def ruleLess : List Sv → Option Sv
  | [.one (.i .i64 a la), .one (.i .i64 b lb)] => some (.one (.b (decide (a < b)) (la && lb)))
  | _ => none
theorem less_shape (a b : Int) : isB (evFn tbl [] (fun _ => none) 100 4 114 [.one (.i .i64 a false), .one (.i .i64 b false)] st0) = true := by kernel_rfl
theorem less_reads (a b : Int) : rdB (evFn tbl [] (fun _ => none) 100 4 114 [.one (.i .i64 a false), .one (.i .i64 b false)] st0) =
    bif a != a then (bif !(b != b) then true else decide (a < b)) else decide (a < b) := by kernel_rfl
theorem less_ok : RuleOk Try.prog 114 ruleLess := by
  intro args v h
  unfold ruleLess at h
  split at h
  · rename_i a la b lb
    obtain rfl := Option.some.inj h
    exact ⟨rfl, fun e w => bool_any tbl_ok tbl_any spNone (args := [.one (.i .i64 a false), .one (.i .i64 b false)]) (fun x hx => by
      simp only [List.mem_cons, List.not_mem_nil, or_false] at hx
      rcases hx with rfl | rfl <;> rfl) (less_shape a b) ((less_reads a b).trans (by simp)) e w⟩
  · cases h
end Go.Proofs.Ytgiinciclnekjaa
