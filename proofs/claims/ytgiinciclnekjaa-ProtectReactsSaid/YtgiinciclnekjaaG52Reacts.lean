/-
  The law ProtectReacts: all that is checked.
-/
import Derived.Test.YtgiinciclnekjaaG51Reacts
set_option linter.unusedSimpArgs false
set_option linter.unusedVariables false
namespace Go.Proofs.Ytgiinciclnekjaa
open Sx Go.RowKit
set_option maxRecDepth 100000
section
variable (b : Nat → Bool) (x : Nat → Int) (len cap : Nat) (f : Nat → Value) (kz : Bool) (v u : FVal)
noncomputable def reA := ((selW [] (reT b x len cap f)).map fun r => let σ := (reS b x len cap f).st; (r.1, (stpOf r.2).isSome, (reS b x len cap f).k, okF crD1 σ σ, (σ.apps (famW v 0 crD1)).isSome, (σ.apps (famW v 0 crD)).isSome, rvI crD1 σ 0),
  (wayR crD (reS b x len cap f).st (reI1 b x len cap f v) .normal (reR1 b x len cap f v) [true]).map (fun r => (r.1, rvI crD r.2 0, (rvR crD r.2 1).map fun r => (r.n, r.m, (List.range 31).map r.f))),
  (wayR crD (reS b x len cap f).st (reI b x len cap f v) .normal (reR b x len cap f v) [true]).map (fun r => (r.1, rvI crD r.2 0, (rvR crD r.2 1).map fun r => (r.n, r.m, r.f))),
  (wayR crD (reS b x len cap f).st (reI b x len cap f v) (.exit 0) (reR b x len cap f v) [false]).map (fun r => (r.1, (rvR crD r.2 1).map fun r => (r.n, r.m, r.f))))
theorem re_A : reA b x len cap f v = crAX x len f v := by kernel_rfl
/-- The stop of a cause's loop. -/
noncomputable def reU (c : Nat) (T : Tree SLeaf) (p : List Bool) := (selW p T).map fun r => let σ := (reG b x len cap f kz v c).st; (r.1, (stpOf r.2).isSome, (reG b x len cap f kz v c).k, okF reD2 σ σ, (σ.apps (famW u 0 reD2)).isSome, (σ.apps [.ft 13, .ft 12]).isSome, rvI reD2 σ 0, rvI reD2 σ 1)
noncomputable def reL (c : Nat) := ((wayR reD2 (reG b x len cap f kz v c).st (reI2 b x len cap f kz v u c) .normal (reR2 b x len cap f kz v u c) [true, false]).map (fun r => (r.1, rvI reD2 r.2 0, rvI reD2 r.2 1)),
  (wayR reD2 (reG b x len cap f kz v c).st (reI2 b x len cap f kz v u c) (.exit 4) (reR2 b x len cap f kz v u c) [false]).map (fun r => r.1))
noncomputable def reLX (K A : Nat) (B : Bool) (c : Nat) := ((some (reDm K A B x len f v u c ++ [!reBad K A B x f v u c], IntKind.i64.wrap (u.i 0 + 1), ruI f u c) : Option (List Bool × Int × Int)), (some [!decide (u.i 0 < (v.n 1 : Int))] : Option (List Bool)))
def fdD : List Bool := fdB b x kz ++ [plDem (nOf (gsL (guN x))) (laI x) (v.n 1) (v.m 1), (List.range (v.n 1)).all (truOk (v.f 1)), !((v.n 1 : Int) != (v.n 1 : Int)), !(erI' x != 0)]
theorem re_U0_0 : reU b x len cap f true v u 0 (reT0 b x len cap f v) [true, false, false] = some (fdD b x true v, true, 4, true, true, true, 0, 0) := by kernel_rfl
theorem re_U0_1 : reU b x len cap f true v u 1 (reN b x len cap f true v 0) [false] = some ([!(erI' x != 0)], true, 4, true, true, true, 0, 0) := by kernel_rfl
theorem re_U0_2 : reU b x len cap f true v u 2 (reN b x len cap f true v 1) [false] = some ([!(erI' x != 0)], true, 4, true, true, true, 0, 0) := by kernel_rfl
theorem re_U0_3 : reU b x len cap f true v u 3 (reN b x len cap f true v 2) [false] = some ([!(erI' x != 0)], true, 4, true, true, true, 0, 0) := by kernel_rfl
theorem re_U0_4 : reU b x len cap f true v u 4 (reN b x len cap f true v 3) [false] = some ([!(erI' x != 0)], true, 4, true, true, true, 0, 0) := by kernel_rfl
theorem re_U0_5 : reU b x len cap f true v u 5 (reN b x len cap f true v 4) [false] = some ([!(erI' x != 0)], true, 4, true, true, true, 0, 0) := by kernel_rfl
theorem re_L0_0 : reL b x len cap f true v u 0 = reLX x len f v u 0 0 false 0 := by kernel_rfl
theorem re_L0_1 : reL b x len cap f true v u 1 = reLX x len f v u 0 0 false 1 := by kernel_rfl
theorem re_L0_2 : reL b x len cap f true v u 2 = reLX x len f v u 0 0 false 2 := by kernel_rfl
theorem re_L0_3 : reL b x len cap f true v u 3 = reLX x len f v u 0 0 false 3 := by kernel_rfl
theorem re_L0_4 : reL b x len cap f true v u 4 = reLX x len f v u 0 0 false 4 := by kernel_rfl
theorem re_L0_5 : reL b x len cap f true v u 5 = reLX x len f v u 0 0 false 5 := by kernel_rfl
theorem re_E0 : (selW [] (reN b x len cap f true v 5)).map (fun r => (r.1, retB 10 r.2)) = some ([], some true) := by kernel_rfl
theorem re_U1_0 : reU b x len cap f false v u 0 (reT0 b x len cap f v) [false, false, false] = some (fdD b x false v, true, 4, true, true, true, 0, 0) := by kernel_rfl
theorem re_U1_1 : reU b x len cap f false v u 1 (reN b x len cap f false v 0) [false] = some ([!(erI' x != 0)], true, 4, true, true, true, 0, 0) := by kernel_rfl
theorem re_U1_2 : reU b x len cap f false v u 2 (reN b x len cap f false v 1) [false] = some ([!(erI' x != 0)], true, 4, true, true, true, 0, 0) := by kernel_rfl
theorem re_U1_3 : reU b x len cap f false v u 3 (reN b x len cap f false v 2) [false] = some ([!(erI' x != 0)], true, 4, true, true, true, 0, 0) := by kernel_rfl
theorem re_U1_4 : reU b x len cap f false v u 4 (reN b x len cap f false v 3) [false] = some ([!(erI' x != 0)], true, 4, true, true, true, 0, 0) := by kernel_rfl
theorem re_U1_5 : reU b x len cap f false v u 5 (reN b x len cap f false v 4) [false] = some ([!(erI' x != 0)], true, 4, true, true, true, 0, 0) := by kernel_rfl
theorem re_L1_0 : reL b x len cap f false v u 0 = reLX x len f v u (kdI x).toNat (plaI x).toNat (alB b x) 0 := by kernel_rfl
theorem re_L1_1 : reL b x len cap f false v u 1 = reLX x len f v u (kdI x).toNat (plaI x).toNat (alB b x) 1 := by kernel_rfl
theorem re_L1_2 : reL b x len cap f false v u 2 = reLX x len f v u (kdI x).toNat (plaI x).toNat (alB b x) 2 := by kernel_rfl
theorem re_L1_3 : reL b x len cap f false v u 3 = reLX x len f v u (kdI x).toNat (plaI x).toNat (alB b x) 3 := by kernel_rfl
theorem re_L1_4 : reL b x len cap f false v u 4 = reLX x len f v u (kdI x).toNat (plaI x).toNat (alB b x) 4 := by kernel_rfl
theorem re_L1_5 : reL b x len cap f false v u 5 = reLX x len f v u (kdI x).toNat (plaI x).toNat (alB b x) 5 := by kernel_rfl
theorem re_E1 : (selW [] (reN b x len cap f false v 5)).map (fun r => (r.1, retB 10 r.2)) = some ([], some true) := by kernel_rfl
end
end Go.Proofs.Ytgiinciclnekjaa
