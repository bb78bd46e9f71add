/-
  Vote, Holds, Apart, Reaction of both sides, at all arguments.
-/
import Derived.Test.YtgiinciclnekjaaRp
set_option linter.unusedSimpArgs false
set_option linter.unusedVariables false
namespace Go.Proofs.Ytgiinciclnekjaa
open Sx Go.RowKit
set_option maxRecDepth 100000
abbrev aG (n : Nat → Int) : Sv := .agg (symL (fun _ => false) n 0 lsG)
abbrev aL (b : Nat → Bool) (m : Nat → Int) : Sv := .agg (symL b m 0 lsL)
abbrev aB (c : Nat → Bool) (z : Nat → Int) : Sv := .agg (symL c z 0 lsB)
def L21 (b : Nat → Bool) (m : Nat → Int) (c : Nat → Bool) (z : Nat → Int) : List Cv := symL b m 0 lsL ++ symL c z 0 lsB
def L18 (b : Nat → Bool) (m : Nat → Int) : List Cv := symL b m 0 lsL
def gL (n : Nat → Int) : List Cv := symL (fun _ => false) n 0 lsG
def kG (n : Nat → Int) : Bool := chkR n != 0
def oP (q : Int) : Bool := bif decide (q < 0) then true else decide (q ≥ 5)
def oR (q : Int) : Bool := !(bif decide (q ≥ 0) then decide (q ≤ 4) else false)
def sLo (n : Nat → Int) (b c : Nat → Bool) (L : List Cv) (q : Int) : Int := vLo (us (b 0) (c 0)) (us (b 6) (c 1)) (us (b 12) (c 2)) (nOf L (1 + q.toNat)) (nOf L (7 + q.toNat)) (nOf L (13 + q.toNat)) (nOf (gL n) (6 + q.toNat))
def sHi (n : Nat → Int) (b c : Nat → Bool) (L : List Cv) (q : Int) : Int := vHi (us (b 0) (c 0)) (us (b 6) (c 1)) (us (b 12) (c 2)) (nOf L (1 + q.toNat)) (nOf L (7 + q.toNat)) (nOf L (13 + q.toNat)) (nOf (gL n) (6 + q.toNat))
def sOk (n : Nat → Int) (b c : Nat → Bool) (L : List Cv) (q : Int) : Bool := vOk (us (b 0) (c 0)) (us (b 6) (c 1)) (us (b 12) (c 2)) (nOf L (1 + q.toNat)) (nOf L (7 + q.toNat)) (nOf L (13 + q.toNat)) (nOf (gL n) (6 + q.toNat))
def Vvo (k out : Bool) (lo hi : Int) (ok : Bool) (e : Int) : Vv := .tup [(false, [.i .i64 (bif k then 0 else bif out then 0 else lo)]), (false, [.i .i64 (bif k then 0 else bif out then 0 else hi)]), (false, [.b (bif k then false else bif out then false else ok)]), (false, [.i .i64 (bif k then e else bif out then 3 else 0)])]
theorem wvP_eval (n : Nat → Int) (b : Nat → Bool) (m : Nat → Int) (c : Nat → Bool) (z : Nat → Int) (q : Int) : res (evFn tbl wr5 spP 300 12 22 [aG n, aL b m, aB c z, .one (.i .i64 q false)] st0) =
    some ([kG n || (oP q || decide (0 ≤ q ∧ q < 5))], Vvo (kG n) (oP q) (sLo n b c (L21 b m c z) q) (sHi n b c (L21 b m c z) q) (sOk n b c (L21 b m c z) q) (chkR n)) := by kernel_rfl
theorem wvR_eval (n : Nat → Int) (b : Nat → Bool) (m : Nat → Int) (c : Nat → Bool) (z : Nat → Int) (q : Int) : res (evFn tbl wr5 spP 300 12 25 [aG n, aL b m, aB c z, .one (.i .i64 q false)] st0) =
    some ([kG n || (oR q || decide (0 ≤ q ∧ q < 5))], Vvo (kG n) (oR q) (sLo n b c (L18 b m) q) (sHi n b c (L18 b m) q) (sOk n b c (L18 b m) q) 2) := by kernel_rfl
def Vls (k : Bool) (l : List Bool) (e : Int) : Vv := .tup [(true, l.map fun x => Lv.b (bif k then false else x)), (false, [.i .i64 (bif k then e else 0)])]
theorem whP_eval (n : Nat → Int) (b : Nat → Bool) (m : Nat → Int) (c : Nat → Bool) (z : Nat → Int) : res (evFn tbl wr5 spP 300 12 26 [aG n, aL b m, aB c z] st0) = some ([], Vls (kG n) (hoR n b m c) (chkR n)) := by kernel_rfl
theorem whR_eval (n : Nat → Int) (b : Nat → Bool) (m : Nat → Int) (c : Nat → Bool) (z : Nat → Int) : res (evFn tbl wr5 spP 300 12 27 [aG n, aL b m, aB c z] st0) = some ([], Vls (kG n) (hoR n b m c) 2) := by kernel_rfl
def apLs (n : Nat → Int) (b : Nat → Bool) (m : Nat → Int) (c : Nat → Bool) : List Bool := [apP n b m c 0, apP n b m c 1, apP n b m c 2]
theorem waP_eval (n : Nat → Int) (b : Nat → Bool) (m : Nat → Int) (c : Nat → Bool) (z : Nat → Int) : res (evFn tbl wr5 spP 300 12 28 [aG n, aL b m, aB c z] st0) = some ([], Vls (kG n) (apLs n b m c) (chkR n)) := by kernel_rfl
theorem waR_eval (n : Nat → Int) (b : Nat → Bool) (m : Nat → Int) (c : Nat → Bool) (z : Nat → Int) : res (evFn tbl wr5 spP 300 12 29 [aG n, aL b m, aB c z] st0) = some ([], Vls (kG n) (apLs n b m c) 2) := by kernel_rfl
def ocP (q l : Int) : Bool := bif decide (q < 1) then true else bif decide (q > 6) then true else bif decide (l < 0) then true else decide (l > 20)
def ocR (q l : Int) : Bool := bif !(bif decide (q ≥ 1) then decide (q ≤ 6) else false) then true else !(bif decide (l ≥ 0) then decide (l ≤ 20) else false)
def pickI (w : Int) : Nat → (Nat → Int) → Int
  | 0, g => g 0
  | k + 1, g => bif decide (w = ((k + 1 : Nat) : Int)) then g (k + 1) else pickI w k g
def Vre (k out : Bool) (q l : Int) (n : Nat → Int) (e : Int) : Vv := .tup [(false, [.i .i64 (bif k then 0 else bif out then 0 else pickI (IntKind.i64.wrap (q - 1)) 6 fun j => IntKind.i64.wrap (n (11 + j) + l))]), (false, [.i .i64 (bif k then e else bif out then 3 else pickI (IntKind.i64.wrap (q - 1)) 6 fun _ => 0)])]
theorem wrP_eval (n : Nat → Int) (q l : Int) : res (evFn tbl wr5 spP 300 12 30 [aG n, .one (.i .i64 q false), .one (.i .i64 l false)] st0) =
    some ([kG n || (ocP q l || decide (0 ≤ IntKind.i64.wrap (q - 1) ∧ IntKind.i64.wrap (q - 1) < ((7 : Nat) : Int)))], Vre (kG n) (ocP q l) q l n (chkR n)) := by kernel_rfl
theorem wrR_eval (n : Nat → Int) (q l : Int) : res (evFn tbl wr5 spP 300 12 31 [aG n, .one (.i .i64 q false), .one (.i .i64 l false)] st0) =
    some ([kG n || (ocR q l || decide (0 ≤ IntKind.i64.wrap (q - 1) ∧ IntKind.i64.wrap (q - 1) < ((7 : Nat) : Int)))], Vre (kG n) (ocR q l) q l n 2) := by kernel_rfl

/-! The same on both sides. -/
theorem chk02 (n : Nat → Int) : chkR n = 0 ∨ chkR n = 2 := by
  unfold chkR
  rw [ladder_eq, ladder_eq]
  split
  · exact Or.inr rfl
  · split
    · exact Or.inr rfl
    · cases lastG n
      · exact Or.inl rfl
      · exact Or.inr rfl
theorem kG_e (n : Nat → Int) (x : Int) : (bif kG n then chkR n else x) = bif kG n then 2 else x := by
  unfold kG
  rcases chk02 n with h | h <;> rw [h] <;> rfl
theorem oP_eq (q : Int) : oP q = !decide (0 ≤ q ∧ q < 5) := by
  unfold oP
  by_cases h1 : q < 0
  · simp [h1, show ¬ 0 ≤ q by omega]
  · by_cases h2 : q ≥ 5
    · simp [h1, h2, show ¬ q < 5 by omega]
    · simp [h1, h2, show 0 ≤ q by omega, show q < 5 by omega]
theorem oR_eq (q : Int) : oR q = oP q := by
  rw [oP_eq]
  unfold oR
  by_cases h1 : q ≥ 0
  · by_cases h2 : q ≤ 4
    · simp [h1, h2, show 0 ≤ q by omega, show q < 5 by omega]
    · simp [h1, h2, show 0 ≤ q by omega, show ¬ q < 5 by omega]
  · simp [h1, show ¬ 0 ≤ q by omega]
theorem ocR_eq (q l : Int) : ocR q l = ocP q l := by
  unfold ocR ocP
  by_cases h1 : q < 1 <;> by_cases h2 : q > 6 <;> by_cases h3 : l < 0 <;> by_cases h4 : l > 20
  all_goals
    have e1 : decide (q ≥ 1) = !decide (q < 1) := by simp [h1]; try omega
    have e2 : decide (q ≤ 6) = !decide (q > 6) := by simp [h2]; try omega
    have e3 : decide (l ≥ 0) = !decide (l < 0) := by simp [h3]; try omega
    have e4 : decide (l ≤ 20) = !decide (l > 20) := by simp [h4]; try omega
    rw [e1, e2, e3, e4]
    simp only [h1, h2, h3, h4, decide_true, decide_false]
    rfl
end Go.Proofs.Ytgiinciclnekjaa
