/-
  Which channels are apart, in plain numbers.
-/
import Derived.Test.YtgiinciclnekjaaVm
set_option linter.unusedSimpArgs false
set_option linter.unusedVariables false
namespace Go.Proofs.Ytgiinciclnekjaa
open Sx

/-! Which channels are apart. -/
def tri {α : Type} (u0 u1 u2 : Bool) (x y : α) : α := bif u0 then (bif u1 then (bif u2 then x else y) else bif u2 then y else y) else bif u1 then (bif u2 then y else y) else bif u2 then y else y
theorem tri_eq {α : Type} (u0 u1 u2 : Bool) (x y : α) : tri u0 u1 u2 x y = bif (u0 && u1 && u2) then x else y := by cases u0 <;> cases u1 <;> cases u2 <;> rfl
def apF (u0 u1 u2 : Bool) : List Bool → Bool → Bool
  | [], acc => acc
  | f :: fs, acc => tri u0 u1 u2 (apF u0 u1 u2 fs (bif acc then true else f)) acc
def tri3 {α : Type} (u0 u1 u2 : Bool) (x y : α) : α := bif u0 then (bif u1 then (bif u2 then x else y) else y) else y
theorem tri3_eq {α : Type} (u0 u1 u2 : Bool) (x y : α) : tri3 u0 u1 u2 x y = bif (u0 && u1 && u2) then x else y := by cases u0 <;> cases u1 <;> cases u2 <;> rfl
def apL (u0 u1 u2 : Bool) : List Bool → Bool → Bool
  | [], acc => acc
  | f :: fs, acc => apL u0 u1 u2 fs (tri3 u0 u1 u2 (bif f then true else acc) acc)
theorem apF_eq (u0 u1 u2 : Bool) : ∀ (fs : List Bool) (acc : Bool), apF u0 u1 u2 fs acc = (acc || (u0 && u1 && u2 && fs.any id))
  | [], acc => by simp [apF]
  | f :: fs, acc => by
    rw [apF, tri_eq, apF_eq u0 u1 u2 fs]
    cases u0 && u1 && u2 <;> cases acc <;> cases f <;> simp
theorem apL_eq (u0 u1 u2 : Bool) : ∀ (fs : List Bool) (acc : Bool), apL u0 u1 u2 fs acc = (acc || (u0 && u1 && u2 && fs.any id))
  | [], acc => by simp [apL]
  | f :: fs, acc => by
    rw [apL, tri3_eq, apL_eq u0 u1 u2 fs]
    cases u0 && u1 && u2 <;> cases acc <;> cases f <;> simp
/-- Whether a channel is far from the middle one, of each quantity. -/
def farL (m n : Nat → Int) (o : Nat) : List Bool := [farV (m (o + 0)) (med (m 1) (m 7) (m 13)) (n 6), farV (m (o + 1)) (med (m 2) (m 8) (m 14)) (n 7), farV (m (o + 2)) (med (m 3) (m 9) (m 15)) (n 8), farV (m (o + 3)) (med (m 4) (m 10) (m 16)) (n 9), farV (m (o + 4)) (med (m 5) (m 11) (m 17)) (n 10)]
def apP (n : Nat → Int) (h : Nat → Bool) (m : Nat → Int) (c : Nat → Bool) (i : Nat) : Bool := apF (us (h 0) (c 0)) (us (h 6) (c 1)) (us (h 12) (c 2)) (farL m n (6 * i + 1)) (bif !c i then !h (6 * i) else false)
def apR (n : Nat → Int) (h : Nat → Bool) (m : Nat → Int) (c : Nat → Bool) (i : Nat) : Bool := apL (us (h 0) (c 0)) (us (h 6) (c 1)) (us (h 12) (c 2)) (farL m n (6 * i + 1)) (bif (bif !c i then !h (6 * i) else false) then true else false)
theorem apR_eq (n : Nat → Int) (h : Nat → Bool) (m : Nat → Int) (c : Nat → Bool) (i : Nat) : apR n h m c i = apP n h m c i := by
  unfold apR apP
  rw [apF_eq, apL_eq]
  cases (bif !c i then !h (6 * i) else false) <;> rfl
end Go.Proofs.Ytgiinciclnekjaa
