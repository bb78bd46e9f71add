/-
  The law ProtectDead: what a round comes to.
-/
import Derived.Test.YtgiinciclnekjaaG26Dead
set_option linter.unusedSimpArgs false
set_option linter.unusedVariables false
namespace Go.Proofs.Ytgiinciclnekjaa
open Sx Go.RowKit
set_option maxRecDepth 100000
def gsL (n : Nat → Int) : List Cv := symL (fun _ => false) n 0 lsG
def csL (v : FVal) : List Cv := symL v.b v.i 2 lsM
def sgL (f : Nat → Value) (i : Int) : List Cv := (List.range 31).map fun j => (lfAt lsS j).of (f (0 + i.toNat * 31 + j))
noncomputable def rI (n : Nat → Int) (v : FVal) (f : Nat → Value) (j : Nat) : Int := nwI j (v.i 1) (nOf (gsL n)) (bOf (csL v)) (nOf (csL v)) (bOf (sgL f (v.i 0))) (nOf (sgL f (v.i 0)))
noncomputable def rB (n : Nat → Int) (v : FVal) (f : Nat → Value) (j : Nat) : Bool := nwB j (v.i 1) (nOf (gsL n)) (bOf (csL v)) (nOf (csL v)) (bOf (sgL f (v.i 0))) (nOf (sgL f (v.i 0)))
noncomputable def rA (n : Nat → Int) (v : FVal) (f : Nat → Value) (j : Nat) : Bool := acB j (v.i 1) (nOf (gsL n)) (bOf (csL v)) (nOf (csL v)) (bOf (sgL f (v.i 0))) (nOf (sgL f (v.i 0)))
def drvC (X : Int) (a b c : Bool) : Bool := bif X != 1 then (bif X != 2 then !(a == false && (b == false && c == false)) else false) else false
def deadC (p X : Int) (a b c : Bool) : Bool := bif p == 5 then (bif X != 5 then true else drvC X a b c) else drvC X a b c
def lgB (len : Nat) (i : Int) : Bool := bif decide (i < (len : Int)) then decide (i < 100) else false
/-- What is demanded of a round that goes on. -/
noncomputable def goL (n : Nat → Int) (len : Nat) (f : Nat → Value) (v : FVal) : List Bool := [lgB len (v.i 0), decide (0 ≤ v.i 0 ∧ v.i 0 < (len : Int)), decide (0 + (v.i 0).toNat * 31 + 31 ≤ len * 31), (List.range 31).all fun j => (lfAt lsS j).isV (f (0 + (v.i 0).toNat * 31 + j)), decide (0 ≤ v.i 1 ∧ v.i 1 < 6),
  !deadC (v.i 1) (rI n v f 0) (rA n v f 0) (rA n v f 1) (rA n v f 2), !(bif v.b 3 then !rB n v f 2 else false), !(bif v.b 4 then !rB n v f 3 else false), !(bif v.b 5 then !rB n v f 4 else false)]
theorem dd_go (n : Nat → Int) (len cap : Nat) (f : Nat → Value) (v : FVal) : (wayR ddD (ddS n len cap f).st (ddI n len cap f v) .normal (ddR n len cap f v) [true, false, false, false, false]).map (fun r => (r.1, rvI ddD r.2 0, rvI ddD r.2 1)) = some (goL n len f v, IntKind.i64.wrap (v.i 0 + 1), rI n v f 0) := by kernel_rfl
theorem dd_out (n : Nat → Int) (len cap : Nat) (f : Nat → Value) (v : FVal) : (wayR ddD (ddS n len cap f).st (ddI n len cap f v) (.exit 0) (ddR n len cap f v) [false]).map (fun r => r.1) = some [!lgB len (v.i 0)] := by kernel_rfl
end Go.Proofs.Ytgiinciclnekjaa

/-
  The law ProtectDead: ahead of the loop, and behind it.
-/
set_option linter.unusedSimpArgs false
set_option linter.unusedVariables false
namespace Go.Proofs.Ytgiinciclnekjaa
open Sx Go.RowKit
set_option maxRecDepth 100000
/-- What is handed back, where it is a truth value. -/
noncomputable def retB (f : Nat) (x : SLeaf) : Option Bool := match x.1 with
  | .out .ret => match evRes tbl x.2 (fnOf f).results.toList with
    | some (.one (.b v _)) => some v
    | _ => none
  | _ => none
theorem retB_at {f : Nat} {x : SLeaf} (h : retB f x = some true) : (x.1 = .out .normal ∨ x.1 = .out .ret) ∧ ∃ l, evRes tbl x.2 (fnOf f).results.toList = some (.one (.b true l)) := by
  unfold retB at h
  split at h
  · rename_i ho
    split at h
    · rename_i v l hv
      obtain rfl := Option.some.inj h
      exact ⟨Or.inr ho, l, hv⟩
    · cases h
  · cases h
theorem dd_bad (n : Nat → Int) (len cap : Nat) (f : Nat → Value) : (selW [true] (ddT n len cap f)).map (fun r => (r.1, retB 3 r.2)) = some ([chkR n != 0], some (bif chkR n == 2 then true else false)) := by kernel_rfl
theorem dd_up (n : Nat → Int) (len cap : Nat) (f : Nat → Value) : (selW [false, false] (ddT n len cap f)).map (fun r => (r.1, (stpOf r.2).isSome, (ddS n len cap f).k)) = some ([!(chkR n != 0), !(chkR n != 0)], true, 0) := by kernel_rfl
theorem dd_ent (n : Nat → Int) (len cap : Nat) (f : Nat → Value) : (okF ddD (ddS n len cap f).st (ddS n len cap f).st, rvI ddD (ddS n len cap f).st 0, rvI ddD (ddS n len cap f).st 1) = (true, 0, 0) := by kernel_rfl
theorem dd_fam (n : Nat → Int) (len cap : Nat) (f : Nat → Value) (v : FVal) : ((ddS n len cap f).st.apps (famW v 0 ddD)).isSome = true := by kernel_rfl
noncomputable def ddX (n : Nat → Int) (len cap : Nat) (f : Nat → Value) (v : FVal) : Tree SLeaf := evS tbl wr5 caS (fnOf 3).ntmps 300 [0] 300 (ddK n len cap f) .normal (ddI n len cap f v)
theorem dd_end (n : Nat → Int) (len cap : Nat) (f : Nat → Value) (v : FVal) : (selW [] (ddX n len cap f v)).map (fun r => (r.1, retB 3 r.2)) = some ([], some true) := by kernel_rfl
end Go.Proofs.Ytgiinciclnekjaa

/-
  A machine's step, written out.
-/
set_option linter.unusedSimpArgs false
set_option linter.unusedVariables false
namespace Go.Proofs.Ytgiinciclnekjaa
open Sx Go.RowKit
section
variable (n : Nat → Int) (b : Nat → Bool) (m : Nat → Int) (h : Nat → Bool) (s : Nat → Int)
/-- Which conditions hold. -/
def nowB (i : Nat) : Bool := ((hoR n h s (fun i => b (1 + i)))[i]?).getD false
def hlN (i : Nat) : Int := bif nowB n b h s i then IntKind.i64.wrap (m (4 + i) + 1) else 0
/-- The cause behind the first conditions. -/
def cA : Nat → Int
  | 0 => m 0
  | i + 1 => bif decide (hlN n b m h s i ≥ n (11 + i)) then (bif cA i == 0 then ((i + 1 : Nat) : Int) else cA i) else cA i
def cn3 (o : Nat) : Int := bif h (o + 2) then IntKind.i64.wrap ((bif h (o + 1) then IntKind.i64.wrap ((bif h o then 1 else 0) + 1) else (bif h o then 1 else 0)) + 1) else (bif h (o + 1) then IntKind.i64.wrap ((bif h o then 1 else 0) + 1) else (bif h o then 1 else 0))
def cC : Int := bif decide (cn3 h 18 ≥ 2) then (bif cA n b m h s 7 == 0 then 8 else cA n b m h s 7) else cA n b m h s 7
/-- The cause behind the third part of a step. -/
def cW : Int := bif decide (cn3 h 21 ≥ 2) then (bif cC n b m h s == 0 then 9 else cC n b m h s) else cC n b m h s
def clB : Bool := decide ((bif true == h 24 then 0 else bif true == h 25 then 1 else bif true == h 26 then 2 else (-1 : Int)) ≥ 0)
def cuB : Bool := cuP n h s (fun i => b (1 + i))
def wcB : Bool := bif h 29 then clB h else false
def ph0 : Int := bif cW n b m h s != 0 then 4 else bif wcB h then 4 else bif h 29 then 1 else 0
def ca0 : Int := bif cW n b m h s != 0 then cW n b m h s else bif wcB h then (bif cW n b m h s == 0 then 11 else cW n b m h s) else cW n b m h s
def ti0 : Int := bif cW n b m h s != 0 then 0 else bif wcB h then 0 else bif h 29 then 0 else m 15
def t1B : Bool := bif cW n b m h s != 0 then true else !h 29
def lkB : Bool := decide (IntKind.i64.wrap (s 27 * 65536) ≥ IntKind.i64.wrap (s 28 * n 18))
def prB : Bool := decide (IntKind.i64.wrap (m 15 + 1) ≥ n 19)
def ph1 : Int := bif t1B n b m h s then 3 else bif lkB n s then 2 else bif prB n m then 3 else 1
def ca1 : Int := bif t1B n b m h s then cW n b m h s else bif lkB n s then cW n b m h s else bif prB n m then (bif cW n b m h s == 0 then 10 else cW n b m h s) else cW n b m h s
def mi1 : Int := bif t1B n b m h s then m 14 else bif lkB n s then 0 else m 14
def ti1 : Int := bif t1B n b m h s then 0 else bif lkB n s then m 15 else bif prB n m then 0 else IntKind.i64.wrap (m 15 + 1)
def mi2 : Int := bif !h 24 then IntKind.i64.wrap (m 14 + 1) else bif !h 25 then IntKind.i64.wrap (m 14 + 1) else 0
def ca2 : Int := bif decide (mi2 m h > n 20) then (bif cW n b m h s == 0 then 12 else cW n b m h s) else cW n b m h s
def t2B : Bool := bif ca2 n b m h s != 0 then true else !h 29
def ph2 : Int := bif t2B n b m h s then 3 else 2
def ti2 : Int := bif t2B n b m h s then 0 else m 15
def loB : Bool := decide (IntKind.i64.wrap (m 15 + 1) < n 20)
def ccB : Bool := bif clB h then cuB n b h s else false
def ca3 : Int := bif clB h then (bif cW n b m h s == 0 then 11 else cW n b m h s) else cW n b m h s
def ph3 : Int := bif loB n m then 3 else bif ccB n b h s then 5 else bif ca3 n b m h s != 0 then 4 else 0
def cs3 : Int := bif loB n m then cW n b m h s else bif ccB n b h s then cW n b m h s else ca3 n b m h s
def ti3 : Int := bif loB n m then IntKind.i64.wrap (m 15 + 1) else bif ccB n b h s then IntKind.i64.wrap (m 15 + 1) else bif ca3 n b m h s != 0 then 0 else 0
def ti4 : Int := bif cuB n b h s then IntKind.i64.wrap (m 15 + 1) else 0
def fiB : Bool := decide (ti4 n b m h s ≥ n 20)
def noB : Bool := nowB n b h s 0 == false && (nowB n b h s 1 == false && (nowB n b h s 2 == false && (nowB n b h s 3 == false && (nowB n b h s 4 == false && (nowB n b h s 5 == false && nowB n b h s 6 == false)))))
def rsB : Bool := bif h 30 then (bif noB n b h s then (bif !decide (cn3 h 18 ≥ 2) then (bif !decide (cn3 h 21 ≥ 2) then cW n b m h s != 11 else false) else false) else false) else false
def ph4 : Int := bif fiB n b m h s then 5 else bif rsB n b m h s then 0 else 4
def ca4 : Int := bif fiB n b m h s then cW n b m h s else bif rsB n b m h s then 0 else cW n b m h s
def tm4 : Int := bif fiB n b m h s then ti4 n b m h s else bif rsB n b m h s then 0 else ti4 n b m h s
def hl4 (i : Nat) : Int := bif fiB n b m h s then hlN n b m h s i else bif rsB n b m h s then 0 else hlN n b m h s i
end
def dr0 (X : Int) : Bool := bif X == 1 then false else bif X == 2 then true else false
def dr1 (X : Int) : Bool := bif X == 1 then true else bif X == 2 then true else false
def dr2 (X : Int) : Bool := bif X == 1 then true else false
/-- Phase, cause, missing, timer. -/
def four (T : Tree FLeaf) : Int × Int × Int × Int := (nOf (stC T) 0, nOf (stC T) 1, nOf (stC T) 15, nOf (stC T) 16)
def seven (T : Tree FLeaf) : Int × Int × Int × Int × Int × Int × Int := (nOf (stC T) 5, nOf (stC T) 6, nOf (stC T) 7, nOf (stC T) 8, nOf (stC T) 9, nOf (stC T) 10, nOf (stC T) 11)
def aways (T : Tree FLeaf) : Int × Int × Int := (nOf (stC T) 12, nOf (stC T) 13, nOf (stC T) 14)
def acts (T : Tree FLeaf) : Bool × Bool × Bool × Bool := (bOf (stA T) 0, bOf (stA T) 1, bOf (stA T) 2, bOf (stA T) 3)
end Go.Proofs.Ytgiinciclnekjaa
