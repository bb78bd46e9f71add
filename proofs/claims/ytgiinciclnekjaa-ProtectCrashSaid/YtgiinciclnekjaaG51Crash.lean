/-
  A life that is handed over.
-/
import Derived.Test.YtgiinciclnekjaaG50Crash
import Derived.KernelRfl
set_option linter.unusedSimpArgs false
set_option linter.unusedVariables false
namespace Go.Proofs.Ytgiinciclnekjaa
open Sx Go.RowKit
set_option maxRecDepth 100000
noncomputable def fsL : Array Field := match tbl.und 114 with
  | some (.struct fs) => fs
  | _ => #[]
noncomputable def flL : Field := (fsL.toList.getLast?).getD ⟨"", 0, 0, false, "", "", 0⟩
theorem life_open {H : Type} {enc : TypeId × Value → H} {w : World} {base : Nat} {spare : Nat → Bool} {held : Bool} {v : Value} {dt : DataW H} {ps : List MemPlace} {r : Reach} {b0 : Nat} (hv : Value.okWide Try.prog w r b0 114 v) (h : DataW.Trod enc Try.prog w base spare held 114 v dt ps) :
    ∃ (bs : Nat → Bool) (ns : Nat → Int) (x : Value), v = .agg ((symL bs ns 0 lsLf).map (·.den env0) ++ [x]).toArray ∧ WfL ns lsLf ∧ RowIs w 27 lsTk x :=
  open_last (fs := fsL) (fs0 := fsL.toList.take 7) (fl := flL) (ls := lsLf) (lse := lsTk) (te := 124) (i := Try.t124) tbl_ok (by kernel_rfl) (by kernel_rfl) (by kernel_rfl) (by kernel_rfl) (by rw [cellsOf_info tbl_ok (i := Try.t114) (by kernel_rfl)]; kernel_rfl) (by rw [cellsOf_info tbl_ok (i := Try.t112) (by kernel_rfl)]; kernel_rfl) (by kernel_rfl) (by kernel_rfl) (by kernel_rfl) (by decide) hv h
end Go.Proofs.Ytgiinciclnekjaa
