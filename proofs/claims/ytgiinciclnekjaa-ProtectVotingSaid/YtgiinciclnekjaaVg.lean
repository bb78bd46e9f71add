/-
  The law ProtectVoting, evaluated.
-/
import Derived.Test.YtgiinciclnekjaaRw
set_option linter.unusedSimpArgs false
set_option linter.unusedVariables false
namespace Go.Proofs.Ytgiinciclnekjaa
open Sx Go.RowKit
set_option maxRecDepth 100000
/-- A list of which one element is set: element j. -/
def st5 {α : Type} (e v : α) (X : Int) (j : Nat) : α := match j with
  | 4 => bif decide (X = ((4 : Nat) : Int)) then v else e
  | 3 => bif decide (X = ((4 : Nat) : Int)) then e else bif decide (X = ((3 : Nat) : Int)) then v else e
  | 2 => bif decide (X = ((4 : Nat) : Int)) then e else bif decide (X = ((3 : Nat) : Int)) then e else bif decide (X = ((2 : Nat) : Int)) then v else e
  | 1 => bif decide (X = ((4 : Nat) : Int)) then e else bif decide (X = ((3 : Nat) : Int)) then e else bif decide (X = ((2 : Nat) : Int)) then e else bif decide (X = ((1 : Nat) : Int)) then v else e
  | _ => bif decide (X = ((4 : Nat) : Int)) then e else bif decide (X = ((3 : Nat) : Int)) then e else bif decide (X = ((2 : Nat) : Int)) then e else bif decide (X = ((1 : Nat) : Int)) then e else v
def st3 {α : Type} (e v : α) (Y : Int) (j : Nat) : α := match j with
  | 2 => bif decide (Y = ((2 : Nat) : Int)) then v else e
  | 1 => bif decide (Y = ((2 : Nat) : Int)) then e else bif decide (Y = ((1 : Nat) : Int)) then v else e
  | _ => bif decide (Y = ((2 : Nat) : Int)) then e else bif decide (Y = ((1 : Nat) : Int)) then e else v
def gsV (s X : Int) : List Cv := [.i .i64 4200000 true, .i .i64 2800000 true, .i .i64 100000 true, .i .i64 50000 true, .i .i64 330000 true, .i .i64 100000 true, .i .i64 (st5 20000 s X 0) false, .i .i64 (st5 20000 s X 1) false, .i .i64 (st5 1000 s X 2) false, .i .i64 (st5 2000 s X 3) false, .i .i64 (st5 10000 s X 4) false,
  .i .i64 3 true, .i .i64 3 true, .i .i64 3 true, .i .i64 3 true, .i .i64 3 true, .i .i64 3 true, .i .i64 3 true, .i .i64 58982 true, .i .i64 5 true, .i .i64 4 true, .i .i64 2000 true]
def k1V (Y : Int) : Int := bif (0 : Int) == Y then 0 else 1
def k2V (Y : Int) : Int := bif (1 : Int) == Y then k1V Y else IntKind.i64.wrap (k1V Y + 1)
def vl0 (g0 th X Y : Int) (j : Nat) : Int := bif (0 : Int) == Y then st5 0 th X j else st5 0 g0 X j
def vl1 (g0 g1 th X Y : Int) (j : Nat) : Int := bif (1 : Int) == Y then st5 0 th X j else bif decide (k1V Y = ((1 : Nat) : Int)) then st5 0 g1 X j else st5 0 g0 X j
def vl2 (g0 g1 th X Y : Int) (j : Nat) : Int := bif (2 : Int) == Y then st5 0 th X j else bif decide (k2V Y = ((1 : Nat) : Int)) then st5 0 g1 X j else st5 0 g0 X j
def hsV (mu : Bool) (i Y : Int) : Bool := bif i == Y then !mu else true
def csV (mu : Bool) (g0 g1 th X Y : Int) : List Cv := [.b (hsV mu 0 Y) false, .i .i64 (vl0 g0 th X Y 0) false, .i .i64 (vl0 g0 th X Y 1) false, .i .i64 (vl0 g0 th X Y 2) false, .i .i64 (vl0 g0 th X Y 3) false, .i .i64 (vl0 g0 th X Y 4) false,
  .b (hsV mu 1 Y) false, .i .i64 (vl1 g0 g1 th X Y 0) false, .i .i64 (vl1 g0 g1 th X Y 1) false, .i .i64 (vl1 g0 g1 th X Y 2) false, .i .i64 (vl1 g0 g1 th X Y 3) false, .i .i64 (vl1 g0 g1 th X Y 4) false,
  .b (hsV mu 2 Y) false, .i .i64 (vl2 g0 g1 th X Y 0) false, .i .i64 (vl2 g0 g1 th X Y 1) false, .i .i64 (vl2 g0 g1 th X Y 2) false, .i .i64 (vl2 g0 g1 th X Y 3) false, .i .i64 (vl2 g0 g1 th X Y 4) false]
def bsV (v : Bool) (Y : Int) : List Cv := [.b (st3 false v Y 0) false, .b (st3 false v Y 1) false, .b (st3 false v Y 2) false]
def loV (gs cs bs : List Cv) (X : Int) : Int := bif kG (nOf gs) then 0 else bif oP X then 0 else sLo (nOf gs) (bOf cs) (bOf bs) (L18 (bOf cs) (nOf cs)) X
def hiV (gs cs bs : List Cv) (X : Int) : Int := bif kG (nOf gs) then 0 else bif oP X then 0 else sHi (nOf gs) (bOf cs) (bOf bs) (L18 (bOf cs) (nOf cs)) X
def okV (gs cs bs : List Cv) (X : Int) : Bool := bif kG (nOf gs) then false else bif oP X then false else sOk (nOf gs) (bOf cs) (bOf bs) (L18 (bOf cs) (nOf cs)) X
def erV (gs : List Cv) (X : Int) : Int := bif kG (nOf gs) then 2 else bif oP X then 3 else 0
/-- What is found wrong with a vote. -/
def chV (gs cs bs : List Cv) (X x h : Int) : Bool := bif erV gs X != 0 then true else bif !okV gs cs bs X then true else bif decide (loV gs cs bs X > hiV gs cs bs X) then true else bif decide (loV gs cs bs X < IntKind.i64.wrap (x - h)) then true else decide (hiV gs cs bs X > IntKind.i64.wrap (x + h))
def hfV (sp : Int) : Int := IntKind.i64.wrap ((IntKind.i64.wrap sp).tdiv 2)
def h1V (sp : Int) : Int := IntKind.i64.wrap (hfV sp + 1)
def gdV (tr a sp : Int) : Int := IntKind.i64.wrap (IntKind.i64.wrap tr + (IntKind.i64.wrap a).tmod (h1V sp))
def muV (X Y H : Int) : List Bool :=
  let M5 := decide (0 ≤ X ∧ X < ((5 : Nat) : Int))
  let M2 := fun k : Int => decide (0 ≤ k ∧ k < ((2 : Nat) : Int))
  [M5, H != 0, H != 0, (!((0 : Int) == Y)) || M5, ((0 : Int) == Y) || M5, (!((1 : Int) == Y)) || M5, ((1 : Int) == Y) || M2 (k1V Y), ((1 : Int) == Y) || ((!decide (k1V Y = ((1 : Nat) : Int))) || M5), ((1 : Int) == Y) || ((decide (k1V Y = ((1 : Nat) : Int))) || M5),
   (!((2 : Int) == Y)) || M5, ((2 : Int) == Y) || M2 (k2V Y), ((2 : Int) == Y) || ((!decide (k2V Y = ((1 : Nat) : Int))) || M5), ((2 : Int) == Y) || ((decide (k2V Y = ((1 : Nat) : Int))) || M5), decide (0 ≤ Y ∧ Y < ((3 : Nat) : Int))]
theorem voting_eval (qu sp tr a b th pl : Int) (mu : Bool) : res (evFn tbl [] sp7 300 12 4 [.one (.i .u8 qu false), .one (.i .u16 sp false), .one (.i .i32 tr false), .one (.i .i16 a false), .one (.i .i16 b false), .one (.i .i64 th false), .one (.b mu false), .one (.i .u8 pl false)] st0) =
    some (muV ((IntKind.i64.wrap qu).tmod 5) ((IntKind.i64.wrap pl).tmod 3) (h1V sp) ++
      [chV (gsV (IntKind.i64.wrap sp) ((IntKind.i64.wrap qu).tmod 5)) (csV mu (gdV tr a sp) (gdV tr b sp) th ((IntKind.i64.wrap qu).tmod 5) ((IntKind.i64.wrap pl).tmod 3)) (bsV false ((IntKind.i64.wrap pl).tmod 3)) ((IntKind.i64.wrap qu).tmod 5) (IntKind.i64.wrap tr) (hfV sp) || decide (0 ≤ (IntKind.i64.wrap pl).tmod 3 ∧ (IntKind.i64.wrap pl).tmod 3 < ((3 : Nat) : Int))],
      .one (.b (bif chV (gsV (IntKind.i64.wrap sp) ((IntKind.i64.wrap qu).tmod 5)) (csV mu (gdV tr a sp) (gdV tr b sp) th ((IntKind.i64.wrap qu).tmod 5) ((IntKind.i64.wrap pl).tmod 3)) (bsV false ((IntKind.i64.wrap pl).tmod 3)) ((IntKind.i64.wrap qu).tmod 5) (IntKind.i64.wrap tr) (hfV sp) then false else
        bif chV (gsV (IntKind.i64.wrap sp) ((IntKind.i64.wrap qu).tmod 5)) (csV mu (gdV tr a sp) (gdV tr b sp) th ((IntKind.i64.wrap qu).tmod 5) ((IntKind.i64.wrap pl).tmod 3)) (bsV true ((IntKind.i64.wrap pl).tmod 3)) ((IntKind.i64.wrap qu).tmod 5) (IntKind.i64.wrap tr) (hfV sp) then false else true))) := by kernel_rfl
end Go.Proofs.Ytgiinciclnekjaa
