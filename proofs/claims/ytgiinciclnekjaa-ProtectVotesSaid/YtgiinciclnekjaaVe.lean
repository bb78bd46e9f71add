/-
  The law ProtectVotes, evaluated.
-/
import Derived.Test.YtgiinciclnekjaaRw
set_option linter.unusedSimpArgs false
set_option linter.unusedVariables false
namespace Go.Proofs.Ytgiinciclnekjaa
open Sx Go.RowKit
set_option maxRecDepth 100000
def eqB : List Bool → Bool
  | [] => true
  | [x] => x == x
  | x :: y :: xs => (x == x) && eqB (y :: xs)
theorem eqB_true : ∀ l : List Bool, eqB l = true
  | [] => rfl
  | [x] => by simp [eqB]
  | x :: y :: xs => by rw [eqB, eqB_true (y :: xs)]; simp
def ifAll : List Bool → Bool
  | [] => true
  | x :: xs => bif x then ifAll xs else false
theorem ifAll_true : ∀ {l : List Bool}, (∀ x ∈ l, x = true) → ifAll l = true
  | [], _ => rfl
  | x :: xs, h => by
    rw [ifAll, h x List.mem_cons_self]
    exact ifAll_true fun y hy => h y (List.mem_cons_of_mem _ hy)
def ifAny : List Bool → Bool
  | [] => false
  | [x] => x
  | x :: y :: xs => bif x then true else ifAny (y :: xs)
def vALo (n : Nat → Int) (b : Nat → Bool) (m : Nat → Int) (c : Nat → Bool) (q : Int) : Int := bif kG n then 0 else bif oP q then 0 else sLo n b c (L18 b m) q
def vAHi (n : Nat → Int) (b : Nat → Bool) (m : Nat → Int) (c : Nat → Bool) (q : Int) : Int := bif kG n then 0 else bif oP q then 0 else sHi n b c (L18 b m) q
def vAOk (n : Nat → Int) (b : Nat → Bool) (m : Nat → Int) (c : Nat → Bool) (q : Int) : Bool := bif kG n then false else bif oP q then false else sOk n b c (L18 b m) q
def vAE (n : Nat → Int) (q : Int) : Int := bif kG n then 2 else bif oP q then 3 else 0
def kE (n : Nat → Int) : Int := bif kG n then 2 else 0
def reN (n : Nat → Int) (q l : Int) : Int := bif kG n then 0 else bif ocP q l then 0 else pickI (IntKind.i64.wrap (q - 1)) 6 fun j => IntKind.i64.wrap (n (11 + j) + l)
def reE (n : Nat → Int) (q l : Int) : Int := bif kG n then 2 else bif ocP q l then 3 else pickI (IntKind.i64.wrap (q - 1)) 6 fun _ => 0
theorem votes_eval (n : Nat → Int) (b : Nat → Bool) (m : Nat → Int) (c : Nat → Bool) (z : Nat → Int) (q l : Int) : res (evFn tbl [] sp7 300 12 7 [aG n, aL b m, aB c z, .one (.i .i64 q false), .one (.i .i64 l false)] st0) =
    some ([], .one (.b (bif ifAny [vALo n b m c q != vALo n b m c q, vAHi n b m c q != vAHi n b m c q, !(vAOk n b m c q == vAOk n b m c q), vAE n q != vAE n q, chkR n != chkR n] then false else
      ifAll [eqB ((hoR n b m c).map fun x => bif kG n then false else x), kE n == kE n, eqB ((apLs n b m c).map fun x => bif kG n then false else x), kE n == kE n, reN n q l == reN n q l, reE n q l == reE n q l]))) := by kernel_rfl
theorem votes_true (n : Nat → Int) (b : Nat → Bool) (m : Nat → Int) (c : Nat → Bool) (q l : Int) : (bif ifAny [vALo n b m c q != vALo n b m c q, vAHi n b m c q != vAHi n b m c q, !(vAOk n b m c q == vAOk n b m c q), vAE n q != vAE n q, chkR n != chkR n] then false else
      ifAll [eqB ((hoR n b m c).map fun x => bif kG n then false else x), kE n == kE n, eqB ((apLs n b m c).map fun x => bif kG n then false else x), kE n == kE n, reN n q l == reN n q l, reE n q l == reE n q l]) = true := by
  simp only [ifAny, bne_self_eq_false, beq_self_eq_true, Bool.not_true, cond_false]
  refine ifAll_true fun x hx => ?_
  simp only [List.mem_cons, List.not_mem_nil, or_false] at hx
  rcases hx with rfl | rfl | rfl | rfl | rfl | rfl <;> first | exact eqB_true _ | simp
end Go.Proofs.Ytgiinciclnekjaa
