/-
  Text at each kind of events that Check lets pass: evaluated.
-/
import Derived.Test.YtdelgbdiofkndaaGreatDoorG11Events
set_option linter.unusedSimpArgs false
set_option linter.unusedVariables false
namespace Go.Proofs.YtdelgbdiofkndaaGreatDoor
open Sx Go.RowKit
def fmD (n : Int) : Bool := decide (-9223372036854775808 ≤ n ∧ n ≤ 9223372036854775807)
def jnD (l : List (List UInt8)) : Bool := decide (l.length ≤ 140737488355328 ∧ (Lib.join l [32]).length ≤ 140737488355328)
def evT (k t a b : Int) (nm ot : ByteArray) : List Sv := [.agg [.i .i64 k true, .i .i64 t false, .i .i64 a false, .i .i64 b false, .s nm true, .s ot true]]
def txV (l : List (List UInt8)) : Sv := .tup [(false, [.s ⟨(Lib.join l [32]).toArray⟩ true]), (false, [.i .i64 0 true])]
theorem tx_any {k t a b : Int} {nm ot : ByteArray} {l : List (List UInt8)} {ds : List Bool} (h : valF (evFn tbl [21] spT 300 12 8 (evT k t a b nm ot) st0) = some (ds, txV l)) (hd : ∀ x ∈ ds, x = true) (w : World) (hG : Glob0 w) :
    Calls Tryz.prog 8 #[.agg #[.int .i64 k, .int .i64 t, .int .i64 a, .int .i64 b, .string nm, .string ot]] w fun e w' => e = .returned (.tuple #[.string ⟨(Lib.join l [32]).toArray⟩, .int .i64 0]) ∧ Below w.heap.size w w' := by
  obtain ⟨y, h1, h2⟩ := valF_at h hd
  have h3 := (evFn_at tbl_ok tbl_any spT_ok h1).any (fun x hx => by
    obtain rfl := List.mem_singleton.1 hx
    rfl) (by rw [h2]; rfl) w hG
  rw [h2] at h3
  exact h3
set_option maxRecDepth 100000 in
theorem tx_eval1 (t a b : Int) (x : UInt8) (nm : List UInt8) : valF (evFn tbl [21] spT 300 12 8 (evT 1 t a b ⟨(x :: nm).toArray⟩ ⟨#[]⟩) st0) =
    some ([okE 1 t a b ⟨(x :: nm).toArray⟩ ⟨#[]⟩, fmD t, fmD a, fmD b, jnD [word 1, itH t :: itT t, itH a :: itT a, itH b :: itT b, x :: nm]], txV [word 1, itH t :: itT t, itH a :: itT a, itH b :: itT b, x :: nm]) := by kernel_rfl
set_option maxRecDepth 100000 in
theorem tx_eval2 (t a b : Int) : valF (evFn tbl [21] spT 300 12 8 (evT 2 t a b ⟨#[]⟩ ⟨#[]⟩) st0) =
    some ([okE 2 t a b ⟨#[]⟩ ⟨#[]⟩, fmD t, fmD a, fmD b, jnD [word 2, itH t :: itT t, itH a :: itT a, itH b :: itT b]], txV [word 2, itH t :: itT t, itH a :: itT a, itH b :: itT b]) := by kernel_rfl
set_option maxRecDepth 100000 in
theorem tx_eval3 (t a b : Int) : valF (evFn tbl [21] spT 300 12 8 (evT 3 t a b ⟨#[]⟩ ⟨#[]⟩) st0) =
    some ([okE 3 t a b ⟨#[]⟩ ⟨#[]⟩, fmD t, fmD a, jnD [word 3, itH t :: itT t, itH a :: itT a]], txV [word 3, itH t :: itT t, itH a :: itT a]) := by kernel_rfl
set_option maxRecDepth 100000 in
theorem tx_eval4 (t a b : Int) : valF (evFn tbl [21] spT 300 12 8 (evT 4 t a b ⟨#[]⟩ ⟨#[]⟩) st0) =
    some ([okE 4 t a b ⟨#[]⟩ ⟨#[]⟩, fmD t, fmD a, jnD [word 4, itH t :: itT t, itH a :: itT a]], txV [word 4, itH t :: itT t, itH a :: itT a]) := by kernel_rfl
set_option maxRecDepth 100000 in
theorem tx_eval5 (t a b : Int) (x : UInt8) (nm : List UInt8) (y : UInt8) (ot : List UInt8) : valF (evFn tbl [21] spT 300 12 8 (evT 5 t a b ⟨(x :: nm).toArray⟩ ⟨(y :: ot).toArray⟩) st0) =
    some ([okE 5 t a b ⟨(x :: nm).toArray⟩ ⟨(y :: ot).toArray⟩, fmD t, jnD [word 5, itH t :: itT t, x :: nm, y :: ot]], txV [word 5, itH t :: itT t, x :: nm, y :: ot]) := by kernel_rfl
set_option maxRecDepth 100000 in
theorem tx_eval6 (t a b : Int) (x : UInt8) (nm : List UInt8) (y : UInt8) (ot : List UInt8) : valF (evFn tbl [21] spT 300 12 8 (evT 6 t a b ⟨(x :: nm).toArray⟩ ⟨(y :: ot).toArray⟩) st0) =
    some ([okE 6 t a b ⟨(x :: nm).toArray⟩ ⟨(y :: ot).toArray⟩, fmD t, jnD [word 6, itH t :: itT t, x :: nm, y :: ot]], txV [word 6, itH t :: itT t, x :: nm, y :: ot]) := by kernel_rfl
set_option maxRecDepth 100000 in
theorem tx_eval7 (t a b : Int) (x : UInt8) (nm : List UInt8) : valF (evFn tbl [21] spT 300 12 8 (evT 7 t a b ⟨(x :: nm).toArray⟩ ⟨#[]⟩) st0) =
    some ([okE 7 t a b ⟨(x :: nm).toArray⟩ ⟨#[]⟩, fmD t, jnD [word 7, itH t :: itT t, x :: nm]], txV [word 7, itH t :: itT t, x :: nm]) := by kernel_rfl
set_option maxRecDepth 100000 in
theorem tx_eval8 (t a b : Int) (x : UInt8) (nm : List UInt8) : valF (evFn tbl [21] spT 300 12 8 (evT 8 t a b ⟨(x :: nm).toArray⟩ ⟨#[]⟩) st0) =
    some ([okE 8 t a b ⟨(x :: nm).toArray⟩ ⟨#[]⟩, fmD t, jnD [word 8, itH t :: itT t, x :: nm]], txV [word 8, itH t :: itT t, x :: nm]) := by kernel_rfl
set_option maxRecDepth 100000 in
theorem tx_eval9 (t a b : Int) : valF (evFn tbl [21] spT 300 12 8 (evT 9 t a b ⟨#[]⟩ ⟨#[]⟩) st0) =
    some ([okE 9 t a b ⟨#[]⟩ ⟨#[]⟩, fmD t, jnD [word 9, itH t :: itT t]], txV [word 9, itH t :: itT t]) := by kernel_rfl
end Go.Proofs.YtdelgbdiofkndaaGreatDoor
