/-
  The laws that play: their rules.
-/
import Derived.Test.YtgiinciclnekjaaG49Welds
import Derived.Test.YtgiinciclnekjaaG51Welds
import Derived.Test.YtgiinciclnekjaaG50Welds
set_option linter.unusedSimpArgs false
set_option linter.unusedVariables false
namespace Go.Proofs.Ytgiinciclnekjaa
open Sx Go.RowKit
set_option maxRecDepth 100000
noncomputable def spC : FuncId → Option (List Sv → St → Tree FLeaf) := fun f => match Nat.beq f 48 with
  | true => some trRule
  | false => match Nat.beq f 47 with
    | true => some guRule
    | false => match Nat.beq f 49 with
      | true => some plRuleA
      | false => spTrue 16 f
theorem spC_ok : SpOk Try.prog spC := by
  intro f g hf args σ y hy
  unfold spC at hf
  split at hf
  · rename_i h1
    obtain rfl := beq_iff'.1 h1
    obtain rfl := Option.some.inj hf
    exact trRule_ok hy
  · split at hf
    · rename_i h1
      obtain rfl := beq_iff'.1 h1
      obtain rfl := Option.some.inj hf
      exact guRule_ok hy
    · split at hf
      · rename_i h1
        obtain rfl := beq_iff'.1 h1
        obtain rfl := Option.some.inj hf
        exact plRuleA_ok hy
      · exact spTrue_ok works5_any f g hf args σ y hy
noncomputable def caC : CallF := evFn tbl wr5 spC 300 12
theorem caC_ok : CallFOk Try.prog caC := evFn_ok tbl_ok tbl_any spC_ok 12
/-- A life: its numbers, its ticks. -/
def lfV (b : Nat → Bool) (x : Nat → Int) (c : Cv) : Sv := .agg (symL b x 0 lsLf ++ [c])
def lfA (b : Nat → Bool) (x : Nat → Int) (len cap : Nat) : List Sv := [lfV b x (.slc 0 (.lit 0) (.opq len) (.opq cap))]
noncomputable def lwE (F : Nat) (b : Nat → Bool) (x : Nat → Int) (len cap : Nat) (f : Nat → Value) : St := enterSt (withVr (stO 124 (len * 27) f) (evVr wr5 F 300 (fnOf F))) (lfA b x len cap)
noncomputable def lwT (F : Nat) (stops : List Nat) (b : Nat → Bool) (x : Nat → Int) (len cap : Nat) (f : Nat → Value) : Tree SLeaf := evS tbl wr5 caC (fnOf F).ntmps 300 stops 300 [.code (cdOf F)] .normal (lwE F b x len cap f)
end Go.Proofs.Ytgiinciclnekjaa

/-
  The law ProtectCrash: its two loops.
-/
set_option linter.unusedSimpArgs false
set_option linter.unusedVariables false
namespace Go.Proofs.Ytgiinciclnekjaa
open Sx Go.RowKit
set_option maxRecDepth 100000
section
variable (b : Nat → Bool) (x : Nat → Int) (len cap : Nat) (f : Nat → Value)
noncomputable def crT : Tree SLeaf := lwT 11 [0, 2] b x len cap f
noncomputable def crS : Stp := (((selW [] (crT b x len cap f)).map (·.2)).bind stpOf).getD stp0
noncomputable def crF : Func := fnOf 11
def crD1 : List FamP := [.t 6 (.i .i64)]
def crD : List FamP := crD1 ++ [.row 5 83 31 100 100]
noncomputable def crI1 (v : FVal) : St := ((crS b x len cap f).st.apps (famW v 0 crD1)).getD st0
noncomputable def crI (v : FVal) : St := ((crS b x len cap f).st.apps (famW v 0 crD)).getD st0
noncomputable def crK : List Kt := (crS b x len cap f).rest
noncomputable def crR1 (v : FVal) : Tree Leaf := evC tbl wr5 caC crF.ntmps [] 300 (crS b x len cap f).body (crI1 b x len cap f v)
noncomputable def crR (v : FVal) : Tree Leaf := evC tbl wr5 caC crF.ntmps [] 300 (crS b x len cap f).body (crI b x len cap f v)
/-- Up to the second loop: without faults, with one. -/
noncomputable def crT2 (v : FVal) : Tree SLeaf := evS tbl wr5 caC crF.ntmps 300 [0, 2] 300 (crK b x len cap f) .normal (crI b x len cap f v)
noncomputable def crS2 (kz : Bool) (v : FVal) : Stp := (((selW [kz, false] (crT2 b x len cap f v)).map (·.2)).bind stpOf).getD stp0
end
def crD2 : List FamP := [.t 11 (.i .i64), .t 9 (.i .i64), .t 10 (.i .i64)]
section
variable (b : Nat → Bool) (x : Nat → Int) (len cap : Nat) (f : Nat → Value) (kz : Bool) (v : FVal)
noncomputable def crI2 (u : FVal) : St := ((crS2 b x len cap f kz v).st.apps (famW u 0 crD2)).getD st0
noncomputable def crK2 : List Kt := (crS2 b x len cap f kz v).rest
noncomputable def crR2 (u : FVal) : Tree Leaf := evC tbl wr5 caC crF.ntmps [] 300 (crS2 b x len cap f kz v).body (crI2 b x len cap f kz v u)
noncomputable def crX (u : FVal) : Tree SLeaf := evS tbl wr5 caC crF.ntmps 300 [0, 2] 300 (crK2 b x len cap f kz v) .normal (crI2 b x len cap f kz v u)
end
/-! A tick, and the truth that is made of it. -/
def tkI (f : Nat → Value) (o : Nat) (k : Nat) : Int := viOf (f (o + k))
def isTk (f : Nat → Value) (o : Nat) : Bool := (List.range 27).all fun k => (lfAt lsTk k).isV (f (o + k))
def lg80 (len : Nat) (i : Int) : Bool := bif decide (i < (len : Int)) then decide (i < 80) else false
/-- The cells of truth i. -/
def tvL (x : Nat → Int) (f : Nat → Value) (o : Nat) : List Value := (trC (guN x) (tkI f o)).map (·.den env0)
def lwC (len : Nat) (f : Nat → Value) (v : FVal) : List Bool := [lg80 len (v.i 0), decide (0 ≤ v.i 0 ∧ v.i 0 < (len : Int)), decide (0 + (v.i 0).toNat * 27 + 27 ≤ len * 27), isTk f (0 + (v.i 0).toNat * 27)]
def lwC2 (v : FVal) : List Bool := [decide (v.n 1 * 31 ≤ v.m 1), decide ((v.n 1 + 1) * 232 ≤ 140737488355328 ∧ v.n 1 + 1 ≤ 140737488355328)]
/-! What the second loop asks of a round. -/
section
variable (K A : Nat) (B : Bool) (x : Nat → Int) (v u : FVal)
def laI : Int := (IntKind.i64.wrap (x 3)).tmod 6
noncomputable def moF (o : Nat) : Value := pF K A B (nOf (gsL (guN x))) (laI x) (v.f 1) (0 + (u.i 0).toNat * 10 + o)
def ccI : Int := bif !vbOf (v.f 1 (0 + (u.i 0).toNat * 31 + 25)) then 0 else IntKind.i64.wrap (u.i 1 + 1)
def wwI : Int := bif !vbOf (v.f 1 (0 + (u.i 0).toNat * 31 + 26)) then 0 else IntKind.i64.wrap (u.i 2 + 1)
def inB : Bool := decide (0 ≤ u.i 0 ∧ u.i 0 < (v.n 1 : Int))
noncomputable def pt3 : List Bool := [inB v u, decide (0 + (u.i 0).toNat * 10 + 9 < v.n 1 * 10), Lf.b.isV (moF K A B x v u 9)]
noncomputable def pt6 : List Bool := (pt3 K A B x v u).map (fun d => !decide (ccI v u > laI x) || d) ++ (pt3 K A B x v u).map (fun d => decide (ccI v u > laI x) || (!decide (wwI v u > laI x) || d))
noncomputable def ca9 : List Bool := [inB v u, decide (0 + (u.i 0).toNat * 10 + 1 < v.n 1 * 10), (Lf.i IntKind.i64).isV (moF K A B x v u 1)] ++ (pt6 K A B x v u).map fun d => (viOf (moF K A B x v u 1) == 0) || d
noncomputable def lwD : List Bool := [decide (u.i 0 < (v.n 1 : Int)), inB v u, decide (0 + (u.i 0).toNat * 31 + 25 < v.m 1), Lf.b.isV (v.f 1 (0 + (u.i 0).toNat * 31 + 25)), inB v u, decide (0 + (u.i 0).toNat * 31 + 26 < v.m 1), Lf.b.isV (v.f 1 (0 + (u.i 0).toNat * 31 + 26))] ++
  ((ca9 K A B x v u).map (fun d => !decide (ccI v u > 0) || d) ++ ((ca9 K A B x v u).map (fun d => decide (ccI v u > 0) || (!decide (wwI v u > 0) || d)) ++ (pt6 K A B x v u).map (fun d => decide (ccI v u > 0) || (decide (wwI v u > 0) || d))))
noncomputable def p6B : Bool := bif decide (ccI v u > laI x) then vbOf (moF K A B x v u 9) else bif decide (wwI v u > laI x) then vbOf (moF K A B x v u 9) else false
noncomputable def badB : Bool := bif decide (ccI v u > 0) then (bif viOf (moF K A B x v u 1) == 0 then true else p6B K A B x v u) else bif decide (wwI v u > 0) then (bif viOf (moF K A B x v u 1) == 0 then true else p6B K A B x v u) else p6B K A B x v u
end
end Go.Proofs.Ytgiinciclnekjaa

/-
  The law ProtectCrash: all that is checked.
-/
set_option linter.unusedSimpArgs false
set_option linter.unusedVariables false
namespace Go.Proofs.Ytgiinciclnekjaa
open Sx Go.RowKit
set_option maxRecDepth 100000
section
variable (b : Nat → Bool) (x : Nat → Int) (len cap : Nat) (f : Nat → Value) (kz : Bool) (v u : FVal)
def kdI : Int := (IntKind.i64.wrap (x 0)).tmod 7
def plaI : Int := (IntKind.i64.wrap (x 1)).tmod 3
def alB : Bool := bif b 2 then (bif kdI x == 5 then true else kdI x == 6) else false
/-- What is demanded ahead of Play. -/
def fdB : List Bool := bif kz then [kdI x == 0, true] else [!(kdI x == 0), decide (1 ≤ kdI x ∧ kdI x ≤ 6 ∧ 0 ≤ plaI x ∧ plaI x ≤ 2) && (!alB b x || decide (5 ≤ kdI x))]
noncomputable def crA := ((selW [] (crT b x len cap f)).map fun r => let σ := (crS b x len cap f).st; (r.1, (stpOf r.2).isSome, (crS b x len cap f).k, okF crD1 σ σ, (σ.apps (famW v 0 crD1)).isSome, (σ.apps (famW v 0 crD)).isSome, rvI crD1 σ 0),
  (wayR crD (crS b x len cap f).st (crI1 b x len cap f v) .normal (crR1 b x len cap f v) [true]).map (fun r => (r.1, rvI crD r.2 0, (rvR crD r.2 1).map fun r => (r.n, r.m, (List.range 31).map r.f))),
  (wayR crD (crS b x len cap f).st (crI b x len cap f v) .normal (crR b x len cap f v) [true]).map (fun r => (r.1, rvI crD r.2 0, (rvR crD r.2 1).map fun r => (r.n, r.m, r.f))),
  (wayR crD (crS b x len cap f).st (crI b x len cap f v) (.exit 0) (crR b x len cap f v) [false]).map (fun r => (r.1, (rvR crD r.2 1).map fun r => (r.n, r.m, r.f))))
noncomputable def crAX := ((some ([], true, 0, true, true, true, 0) : Option (List Bool × Bool × Nat × Bool × Bool × Bool × Int)),
  some (lwC len f v, IntKind.i64.wrap (v.i 0 + 1), some (1, 31, tvL x f (0 + (v.i 0).toNat * 27))),
  some (lwC len f v ++ lwC2 v, IntKind.i64.wrap (v.i 0 + 1), some (v.n 1 + 1, (v.n 1 + 1) * 31, appF (v.n 1 * 31) (v.f 1) (tvL x f (0 + (v.i 0).toNat * 27)))),
  some ([!lg80 len (v.i 0)], some (v.n 1, v.m 1, v.f 1)))
noncomputable def crB := ((selW [kz, false] (crT2 b x len cap f v)).map fun r => let σ := (crS2 b x len cap f kz v).st; (r.1, (stpOf r.2).isSome, (crS2 b x len cap f kz v).k, okF crD2 σ σ, (σ.apps (famW u 0 crD2)).isSome, rvI crD2 σ 0, rvI crD2 σ 1, rvI crD2 σ 2),
  (wayR crD2 (crS2 b x len cap f kz v).st (crI2 b x len cap f kz v u) .normal (crR2 b x len cap f kz v u) [true, false]).map (fun r => (r.1, rvI crD2 r.2 0, rvI crD2 r.2 1, rvI crD2 r.2 2)),
  (wayR crD2 (crS2 b x len cap f kz v).st (crI2 b x len cap f kz v u) (.exit 2) (crR2 b x len cap f kz v u) [false]).map (fun r => r.1),
  (selW [] (crX b x len cap f kz v u)).map (fun r => (r.1, retB 11 r.2)))
noncomputable def crBX (K A : Nat) (B : Bool) := (some (fdB b x kz ++ [plDem (nOf (gsL (guN x))) (laI x) (v.n 1) (v.m 1), (List.range (v.n 1)).all (truOk (v.f 1)), !((v.n 1 : Int) != (v.n 1 : Int))], true, 2, true, true, (0 : Int), (0 : Int), (0 : Int)),
  some (lwD K A B x v u ++ [!badB K A B x v u], IntKind.i64.wrap (u.i 0 + 1), ccI v u, wwI v u),
  some [!decide (u.i 0 < (v.n 1 : Int))],
  (some ([], some true) : Option (List Bool × Option Bool)))
theorem cr_A : crA b x len cap f v = crAX x len f v := by kernel_rfl
theorem cr_B0 : crB b x len cap f true v u = crBX b x true v u 0 0 false := by kernel_rfl
theorem cr_B1 : crB b x len cap f false v u = crBX b x false v u (kdI x).toNat (plaI x).toNat (alB b x) := by kernel_rfl
end
end Go.Proofs.Ytgiinciclnekjaa

/-
  A life's row of truths; a crash, and water, in plain numbers.
-/
set_option linter.unusedSimpArgs false
set_option linter.unusedVariables false
namespace Go.Proofs.Ytgiinciclnekjaa
open Sx Go.RowKit
theorem wfU8 {n : Int} (h : (Lit.int .u8 n).wf = true) : 0 ≤ n ∧ n ≤ 255 := by
  simp only [Lit.wf, Bool.and_eq_true, decide_eq_true_eq] at h
  exact h
theorem wfI8 {n : Int} (h : (Lit.int .i8 n).wf = true) : -128 ≤ n ∧ n ≤ 127 := by
  simp only [Lit.wf, Bool.and_eq_true, decide_eq_true_eq] at h
  exact h
theorem wfI32 {n : Int} (h : (Lit.int .i32 n).wf = true) : -2147483648 ≤ n ∧ n ≤ 2147483647 := by
  simp only [Lit.wf, Bool.and_eq_true, decide_eq_true_eq] at h
  exact h
theorem lf_ok {x : Nat → Int} (h : WfL x lsLf) : LfOk x := by
  intro j hj h2
  match j, hj, h2 with
  | 0, _, _ => exact wfU8 (h 0 .u8 rfl)
  | 1, _, _ => exact wfU8 (h 1 .u8 rfl)
  | 2, _, h2 => exact absurd rfl h2
  | 3, _, _ => exact wfU8 (h 3 .u8 rfl)
  | 4, _, _ => exact wfU8 (h 4 .u8 rfl)
  | 5, _, _ => exact wfU8 (h 5 .u8 rfl)
  | 6, _, _ => exact wfU8 (h 6 .u8 rfl)
  | 7, _, _ => exact wfU8 (h 7 .u8 rfl)
  | 8, _, _ => exact wfU8 (h 8 .u8 rfl)
  | 9, _, _ => exact wfU8 (h 9 .u8 rfl)
  | 10, _, _ => exact wfU8 (h 10 .u8 rfl)
  | 11, _, _ => exact wfU8 (h 11 .u8 rfl)
  | 12, _, _ => exact wfU8 (h 12 .u8 rfl)
  | 13, _, _ => exact wfU8 (h 13 .u8 rfl)
  | 14, _, _ => exact wfU8 (h 14 .u8 rfl)
  | 15, _, _ => exact wfU8 (h 15 .u8 rfl)
  | 16, _, _ => exact wfU8 (h 16 .u8 rfl)
  | j + 17, h, _ => exact absurd h (by omega)
theorem all2_get {α β : Type} {R : α → β → Prop} : ∀ {l : List α} {m : List β}, All2 R l m → ∀ {j : Nat} {a : α}, l[j]? = some a → ∃ b, m[j]? = some b ∧ R a b
  | _, _, .nil, _, _, h => by simp at h
  | _, _, .cons h t, 0, _, hj => by obtain rfl := Option.some.inj hj; exact ⟨_, rfl, h⟩
  | _, _, .cons _ t, j + 1, _, hj => all2_get t hj
theorem elAt_get {f : Nat → Value} {sz j o : Nat} (ho : o < sz) : (elAt f sz j)[o]? = some (f (j * sz + o)) := by
  unfold elAt
  rw [List.getElem?_map, List.getElem?_range ho]; rfl
theorem tk_ok {f : Nat → Value} {j : Nat} (h : All2 Lf.ok lsTk (elAt f 27 j)) : TkOk (tkI f (j * 27)) := by
  have get : ∀ {o : Nat} {k : IntKind}, o < 27 → lsTk[o]? = some (.i k) → (Lit.int k (tkI f (j * 27) o)).wf = true := by
    intro o k ho hk
    obtain ⟨b, hb, n, rfl, hw⟩ := all2_get h hk
    rw [elAt_get ho] at hb
    have hb := Option.some.inj hb
    unfold tkI
    rw [hb]
    exact hw
  refine ⟨fun o ho => ?_, fun o h1 h2 => ?_, wfU8 (get (by omega) rfl)⟩
  · refine wfI8 (get (by omega) ?_)
    match o, ho with
    | 0, _ => rfl
    | 1, _ => rfl
    | 2, _ => rfl
    | 3, _ => rfl
    | 4, _ => rfl
    | 5, _ => rfl
    | 6, _ => rfl
    | 7, _ => rfl
    | 8, _ => rfl
    | 9, _ => rfl
    | 10, _ => rfl
    | 11, _ => rfl
    | 12, _ => rfl
    | 13, _ => rfl
    | 14, _ => rfl
    | 15, _ => rfl
    | 16, _ => rfl
    | 17, _ => rfl
    | 18, _ => rfl
    | 19, _ => rfl
    | 20, _ => rfl
    | j + 21, h => exact absurd h (by omega)
  · refine wfI32 (get (by omega) ?_)
    rcases (show o = 21 ∨ o = 22 ∨ o = 23 ∨ o = 24 ∨ o = 25 by omega) with rfl | rfl | rfl | rfl | rfl <;> rfl
theorem posB_congr {n n' : Nat → Int} (h : ∀ j, j < 29 → j ≠ 25 → j ≠ 26 → n j = n' j) : posB n = posB n' := by
  have e : ∀ m : Nat → Int, posB m = bif (bif !qB (m 0) then true else !qB (m 20)) then false else bif rB' (m 5) then false else bif rB' (m 10) then false else bif rB' (m 15) then false else bif (bif !qB (m 1) then true else !qB (m 21)) then false else bif rB' (m 6) then false else bif rB' (m 11) then false else bif rB' (m 16) then false else bif (bif !qB (m 2) then true else !qB (m 22)) then false else bif rB' (m 7) then false else bif rB' (m 12) then false else bif rB' (m 17) then false else bif (bif !qB (m 3) then true else !qB (m 23)) then false else bif rB' (m 8) then false else bif rB' (m 13) then false else bif rB' (m 18) then false else bif (bif !qB (m 4) then true else !qB (m 24)) then false else bif rB' (m 9) then false else bif rB' (m 14) then false else bif rB' (m 19) then false else bif qB (m 27) then qB (m 28) else false := fun _ => rfl
  rw [e n, e n', h 0 (by omega) (by omega) (by omega), h 1 (by omega) (by omega) (by omega), h 2 (by omega) (by omega) (by omega), h 3 (by omega) (by omega) (by omega), h 4 (by omega) (by omega) (by omega), h 5 (by omega) (by omega) (by omega), h 6 (by omega) (by omega) (by omega), h 7 (by omega) (by omega) (by omega), h 8 (by omega) (by omega) (by omega), h 9 (by omega) (by omega) (by omega), h 10 (by omega) (by omega) (by omega), h 11 (by omega) (by omega) (by omega), h 12 (by omega) (by omega) (by omega), h 13 (by omega) (by omega) (by omega), h 14 (by omega) (by omega) (by omega), h 15 (by omega) (by omega) (by omega), h 16 (by omega) (by omega) (by omega), h 17 (by omega) (by omega) (by omega), h 18 (by omega) (by omega) (by omega), h 19 (by omega) (by omega) (by omega), h 20 (by omega) (by omega) (by omega), h 21 (by omega) (by omega) (by omega), h 22 (by omega) (by omega) (by omega), h 23 (by omega) (by omega) (by omega), h 24 (by omega) (by omega) (by omega), h 27 (by omega) (by omega) (by omega), h 28 (by omega) (by omega) (by omega)]
theorem posB_link {n : Nat → Int} (h : posB n = true) : qB (n 27) = true ∧ qB (n 28) = true := by
  unfold posB at h
  have key : ∀ (l : List Nat) (r : Bool), l.foldr (fun q r => bif (bif !qB (n q) then true else !qB (n (20 + q))) then false else bif rB' (n (5 + q)) then false else bif rB' (n (10 + q)) then false else bif rB' (n (15 + q)) then false else r) r = true → r = true := by
    intro l
    induction l with
    | nil => intro r h; exact h
    | cons q l ih =>
      intro r h
      rw [List.foldr_cons] at h
      refine ih r ?_
      revert h
      generalize List.foldr _ r l = z
      intro h
      cases z with
      | true => rfl
      | false =>
        exfalso
        revert h
        cases (bif !qB (n q) then true else !qB (n (20 + q))) <;> cases rB' (n (5 + q)) <;> cases rB' (n (10 + q)) <;> cases rB' (n (15 + q)) <;> intro h <;> cases h
  have h1 := key _ _ h
  revert h1
  cases qB (n 27) with
  | true => intro h1; exact ⟨rfl, h1⟩
  | false => intro h1; cases h1
/-- The cells of a row of truths. -/
def TV (x : Nat → Int) (f : Nat → Value) (o : Nat) : Value := ((tvL x f (o / 31 * 27))[o % 31]?).getD undef
theorem tvL_at (x : Nat → Int) (f : Nat → Value) (o k : Nat) : (tvL x f o)[k]? = ((trC (guN x) (tkI f o))[k]?).map (·.den env0) := by
  unfold tvL; rw [List.getElem?_map]
section
variable {x : Nat → Int} {f T : Nat → Value} {len N : Nat}
theorem TV_at {k j : Nat} (hj : j < 31) : TV x f (k * 31 + j) = ((tvL x f (k * 27))[j]?).getD undef := by
  unfold TV
  rw [show (k * 31 + j) / 31 = k by omega, show (k * 31 + j) % 31 = j by omega]
theorem row_num (hT : ∀ o, o < N * 31 → T o = TV x f o) {k : Nat} (hk : k < N) {j : Nat} (hj : j < 29) (h1 : j ≠ 25) (h2 : j ≠ 26) : T (k * 31 + j) = .int .i64 (trN (guN x) (tkI f (k * 27)) j) := by
  have hb : k * 31 + 31 ≤ N * 31 := by have := Nat.mul_le_mul_right 31 (show k + 1 ≤ N from hk); omega
  rw [hT _ (by omega), TV_at (by omega)]
  match j, hj, h1, h2 with
  | 0, _, _, _ => rfl
  | 1, _, _, _ => rfl
  | 2, _, _, _ => rfl
  | 3, _, _, _ => rfl
  | 4, _, _, _ => rfl
  | 5, _, _, _ => rfl
  | 6, _, _, _ => rfl
  | 7, _, _, _ => rfl
  | 8, _, _, _ => rfl
  | 9, _, _, _ => rfl
  | 10, _, _, _ => rfl
  | 11, _, _, _ => rfl
  | 12, _, _, _ => rfl
  | 13, _, _, _ => rfl
  | 14, _, _, _ => rfl
  | 15, _, _, _ => rfl
  | 16, _, _, _ => rfl
  | 17, _, _, _ => rfl
  | 18, _, _, _ => rfl
  | 19, _, _, _ => rfl
  | 20, _, _, _ => rfl
  | 21, _, _, _ => rfl
  | 22, _, _, _ => rfl
  | 23, _, _, _ => rfl
  | 24, _, _, _ => rfl
  | 25, _, h, _ => exact absurd rfl h
  | 26, _, _, h => exact absurd rfl h
  | 27, _, _, _ => rfl
  | 28, _, _, _ => rfl
  | j + 29, h, _, _ => exact absurd h (by omega)
theorem row_bool (hT : ∀ o, o < N * 31 → T o = TV x f o) {k : Nat} (hk : k < N) {j : Nat} (hj : j = 25 ∨ j = 26 ∨ j = 29 ∨ j = 30) : T (k * 31 + j) = .bool (trBl (tkI f (k * 27)) j) := by
  have hb : k * 31 + 31 ≤ N * 31 := by have := Nat.mul_le_mul_right 31 (show k + 1 ≤ N from hk); omega
  rw [hT _ (by omega), TV_at (by omega)]
  rcases hj with rfl | rfl | rfl | rfl <;> rfl
/-- All truths of a life are possible. -/
theorem row_ok (hx : LfOk x) (hf : ∀ j, j < len → All2 Lf.ok lsTk (elAt f 27 j)) (hN : N ≤ len) (hT : ∀ o, o < N * 31 → T o = TV x f o) {k : Nat} (hk : k < N) : truOk T k = true := by
  unfold truOk
  rw [Bool.and_eq_true]
  refine ⟨?_, ?_⟩
  · unfold isT
    rw [List.all_eq_true]
    intro j hj
    have hj := List.mem_range.1 hj
    by_cases hb : j = 25 ∨ j = 26 ∨ j = 29 ∨ j = 30
    · rw [row_bool hT hk hb]
      rcases hb with rfl | rfl | rfl | rfl <;> rfl
    · rw [row_num hT hk (by omega) (by omega) (by omega)]
      match j, hj, hb with
      | 0, _, _ => rfl
      | 1, _, _ => rfl
      | 2, _, _ => rfl
      | 3, _, _ => rfl
      | 4, _, _ => rfl
      | 5, _, _ => rfl
      | 6, _, _ => rfl
      | 7, _, _ => rfl
      | 8, _, _ => rfl
      | 9, _, _ => rfl
      | 10, _, _ => rfl
      | 11, _, _ => rfl
      | 12, _, _ => rfl
      | 13, _, _ => rfl
      | 14, _, _ => rfl
      | 15, _, _ => rfl
      | 16, _, _ => rfl
      | 17, _, _ => rfl
      | 18, _, _ => rfl
      | 19, _, _ => rfl
      | 20, _, _ => rfl
      | 21, _, _ => rfl
      | 22, _, _ => rfl
      | 23, _, _ => rfl
      | 24, _, _ => rfl
      | 25, _, hb => exact absurd (by omega) hb
      | 26, _, hb => exact absurd (by omega) hb
      | 27, _, _ => rfl
      | 28, _, _ => rfl
      | 29, _, hb => exact absurd (by omega) hb
      | 30, _, hb => exact absurd (by omega) hb
      | j + 31, h, _ => exact absurd h (by omega)
  · have e : posB (trI T (k * 31)) = posB (trN (guN x) (tkI f (k * 27))) := posB_congr fun j hj h1 h2 => by
      unfold trI
      rw [row_num hT hk hj h1 h2]; rfl
    rw [e]
    exact trN_pos hx (tk_ok (hf k (by omega)))
end
/-! A crash, and water. -/
section
variable {K A : Nat} {B : Bool} {n : Nat → Int} {lag : Int} {T : Nat → Value} {k : Nat}
theorem sg_link (hp : posB (trI T (k * 31)) = true) : eS (nOf (sgP K A B T (pN K A B n lag T k))) = false := by
  obtain ⟨h1, h2⟩ := posB_link hp
  have e0 : (pN K A B n lag T k).i.toNat = k := by rw [pN_i]; rfl
  unfold eS
  have e1 : nOf (sgP K A B T (pN K A B n lag T k)) 27 = trI T (k * 31) 27 := by
    show trI T ((pN K A B n lag T k).i.toNat * 31) 27 = _
    rw [e0]
  have e2 : nOf (sgP K A B T (pN K A B n lag T k)) 28 = trI T (k * 31) 28 := by
    show trI T ((pN K A B n lag T k).i.toNat * 31) 28 = _
    rw [e0]
  rw [e1, e2]
  show (bif !qB _ then true else !qB _) = false
  rw [h1, h2]; rfl
theorem sg_crash (i : Nat) (hi : i < 3) : bOf (sgP K A B T (pN K A B n lag T k)) (18 + i) = (bif wiB K A i then B else trB T (k * 31) 25) ∧ bOf (sgP K A B T (pN K A B n lag T k)) (21 + i) = (bif wiB K A i then B else trB T (k * 31) 26) := by
  have e0 : (pN K A B n lag T k).i.toNat = k := by rw [pN_i]; rfl
  have e1 : ∀ j, trB T ((pN K A B n lag T k).i.toNat * 31) j = trB T (k * 31) j := fun j => by rw [e0]
  rw [← e1, ← e1]
  match i, hi with
  | 0, _ => exact ⟨rfl, rfl⟩
  | 1, _ => exact ⟨rfl, rfl⟩
  | 2, _ => exact ⟨rfl, rfl⟩
theorem wi_one {i j : Nat} (h : wiB K A i = true) (hj : j ≠ i) : wiB K A j = false := by
  unfold wiB at h ⊢
  rw [Bool.and_eq_true] at h
  have h2 := beq_iff'.1 h.2
  cases hb : Nat.beq A j with
  | false => rw [Bool.and_false]
  | true => have := beq_iff'.1 hb; omega
theorem two_of {g : Nat → Bool} {c : Bool} (hc : c = true) (hg : ∀ i, i < 3 → g i = bif wiB K A i then B else c) : (g 0 = true ∧ g 1 = true) ∨ (g 0 = true ∧ g 2 = true) ∨ (g 1 = true ∧ g 2 = true) := by
  have nw : ∀ i, i < 3 → wiB K A i = false → g i = true := fun i hi h => by rw [hg i hi, h, hc]; rfl
  cases h0 : wiB K A 0 with
  | true => exact Or.inr (Or.inr ⟨nw 1 (by omega) (wi_one h0 (by omega)), nw 2 (by omega) (wi_one h0 (by omega))⟩)
  | false =>
    cases h1 : wiB K A 1 with
    | true => exact Or.inr (Or.inl ⟨nw 0 (by omega) h0, nw 2 (by omega) (wi_one h1 (by omega))⟩)
    | false => exact Or.inl ⟨nw 0 (by omega) h0, nw 1 (by omega) h1⟩
/-- A crash, or water: there is a cause. -/
theorem ev_cause (hp : posB (trI T (k * 31)) = true) (he : trB T (k * 31) 25 = true ∨ trB T (k * 31) 26 = true) : pI K A B n T (pN K A B n lag T k) 1 ≠ 0 := by
  unfold pI
  refine crash_cause _ _ _ _ _ (pN_p K A B n lag T k) (sg_link hp) ?_
  rcases he with h | h
  · left; exact cn3_two (two_of (g := fun i => bOf (sgP K A B T (pN K A B n lag T k)) (18 + i)) h fun i hi => (sg_crash i hi).1)
  · right; exact cn3_two (two_of (g := fun i => bOf (sgP K A B T (pN K A B n lag T k)) (21 + i)) h fun i hi => (sg_crash i hi).2)
/-- Where there is a cause nothing is driven. -/
theorem cause_off (hp : posB (trI T (k * 31)) = true) (hc : pI K A B n T (pN K A B n lag T k) 1 ≠ 0) : ∀ j, j < 3 → drv K A B n lag T k j = false := by
  intro j hj
  obtain ⟨a, b, c⟩ := ac_off _ _ _ _ _ (pN_p K A B n lag T k) (sg_link hp) hc
  match j, hj with
  | 0, _ => exact a
  | 1, _ => exact b
  | 2, _ => exact c
end
end Go.Proofs.Ytgiinciclnekjaa

/-
  The law ProtectCrash, whole.
-/
set_option linter.unusedSimpArgs false
set_option linter.unusedVariables false
namespace Go.Proofs.Ytgiinciclnekjaa
open Sx Go.RowKit
theorem caC_seg {N cf fuel : Nat} {stops : List Nat} {k : List Kt} {o : Out} {σ : St} {y : SLeaf} {T : Tree SLeaf} (hE : T = evS tbl wr5 caC N cf stops fuel k o σ) (hA : AtG T y) : SegOk Try.prog N σ k o y := (seg_evS tbl_ok tbl_any caC_ok hE hA).1
/-- A true answer at the end. -/
def LwEnd (F : Nat) (y : SLeaf) : Prop := (y.1 = .out .normal ∨ y.1 = .out .ret) ∧ ∃ l, evRes tbl y.2 (fnOf F).results.toList = some (.one (.b true l))
theorem retB_end {f : Nat} {x : SLeaf} (h : retB f x = some true) : LwEnd f x := retB_at h
section
variable {b : Nat → Bool} {x : Nat → Int} {len cap : Nat} {f : Nat → Value}
theorem crT_eq : crT b x len cap f = evS tbl wr5 caC crF.ntmps 300 [0, 2] 300 [.code (cdOf 11)] .normal (lwE 11 b x len cap f) := by unfold crT lwT; rfl
theorem crR1_eq (v : FVal) : crR1 b x len cap f v = evC tbl wr5 caC crF.ntmps [] 300 (crS b x len cap f).body (crI1 b x len cap f v) := by unfold crR1; rfl
theorem crR_eq (v : FVal) : crR b x len cap f v = evC tbl wr5 caC crF.ntmps [] 300 (crS b x len cap f).body (crI b x len cap f v) := by unfold crR; rfl
theorem crT2_eq (v : FVal) : crT2 b x len cap f v = evS tbl wr5 caC crF.ntmps 300 [0, 2] 300 (crK b x len cap f) .normal (crI b x len cap f v) := by unfold crT2; rfl
theorem crR2_eq (kz : Bool) (v u : FVal) : crR2 b x len cap f kz v u = evC tbl wr5 caC crF.ntmps [] 300 (crS2 b x len cap f kz v).body (crI2 b x len cap f kz v u) := by unfold crR2; rfl
theorem crX_eq (kz : Bool) (v u : FVal) : crX b x len cap f kz v u = evS tbl wr5 caC crF.ntmps 300 [0, 2] 300 (crK2 b x len cap f kz v) .normal (crI2 b x len cap f kz v u) := by unfold crX; rfl
/-- What holds behind round k of a loop that collects truths. -/
structure TrInv (x : Nat → Int) (len : Nat) (f : Nat → Value) (v : FVal) (k : Nat) : Prop where
  hi : v.i 0 = k
  hle : k ≤ len ∧ k ≤ 80
  hn : v.n 1 = k
  hm : v.m 1 = k * 31
  hf : ∀ o, o < k * 31 → v.f 1 o = TV x f o
/-- What holds behind that loop. -/
structure TrEnd (x : Nat → Int) (len : Nat) (f : Nat → Value) (v : FVal) (N : Nat) : Prop where
  hle : 0 < N ∧ N ≤ len ∧ N ≤ 80
  hn : v.n 1 = N
  hm : v.m 1 = N * 31
  hf : ∀ o, o < N * 31 → v.f 1 o = TV x f o
theorem lg80_iff {len : Nat} {i : Int} : lg80 len i = true ↔ i < (len : Int) ∧ i < 80 := by
  unfold lg80
  by_cases h1 : i < (len : Int) <;> by_cases h2 : i < 80 <;> simp [h1, h2]
theorem lwC_ok {v : FVal} {k : Nat} (hi : v.i 0 = k) (hk : k < len ∧ k < 80) (hf : ∀ j, j < len → All2 Lf.ok lsTk (elAt f 27 j)) : ∀ c ∈ lwC len f v, c = true := by
  intro c hc
  unfold lwC at hc
  rw [hi, show ((k : Int)).toNat = k from rfl, Nat.zero_add] at hc
  simp only [List.mem_cons, List.not_mem_nil, or_false] at hc
  rcases hc with rfl | rfl | rfl | rfl
  · exact lg80_iff.2 ⟨by omega, by omega⟩
  · exact decide_eq_true ⟨by omega, by omega⟩
  · refine decide_eq_true ?_
    have := Nat.mul_le_mul_right 27 (show k + 1 ≤ len from hk.1)
    omega
  · have h := rows_isV (hf k hk.1) rfl
    rw [Nat.zero_add] at h
    exact h
/-- A round that collects a truth. -/
theorem tr_next {v : FVal} {u : FVal} {k : Nat} (hi : TrInv x len f v k) (hk : k < len ∧ k < 80) (h0 : u.i 0 = IntKind.i64.wrap (v.i 0 + 1)) (hn : u.n 1 = v.n 1 + 1) (hm : u.m 1 = (v.n 1 + 1) * 31) (hf : u.f 1 = cutF ((v.n 1 + 1) * 31) (appF (v.n 1 * 31) (v.f 1) (tvL x f (0 + (v.i 0).toNat * 27)))) : TrInv x len f u (k + 1) := by
  have hii := hi.hi
  have hnn := hi.hn
  refine ⟨?_, ⟨hk.1, hk.2⟩, by rw [hn, hnn], by rw [hm, hnn], fun o ho => ?_⟩
  · rw [h0, hii, w64 (by omega)]; omega
  · rw [hf, hnn, cut_lt ho, hii]
    show appF (k * 31) (v.f 1) (tvL x f (0 + k * 27)) o = _
    by_cases ho2 : o < k * 31
    · rw [appF_lt ho2]; exact hi.hf o ho2
    · rw [appF_ge (by omega), Nat.zero_add]
      unfold TV
      rw [show o / 31 = k by omega, show o % 31 = o - k * 31 by omega]
theorem tr_first {v u : FVal} (hi : v.i 0 = (0 : Nat)) (hk : 0 < len) (h0 : u.i 0 = IntKind.i64.wrap (v.i 0 + 1)) (hn : u.n 1 = 1) (hm : u.m 1 = 31) {g : Nat → Value} (hf : u.f 1 = cutF 31 g) (hg : (List.range 31).map g = tvL x f (0 + (v.i 0).toNat * 27)) : TrInv x len f u 1 := by
  refine ⟨?_, ⟨hk, by omega⟩, hn, hm, fun o ho => ?_⟩
  · rw [h0, hi]; rfl
  · have ho' : o < 31 := by omega
    rw [hf, cut_lt ho']
    have h5 : ((List.range 31).map g)[o]? = some (g o) := by rw [List.getElem?_map, List.getElem?_range ho']; rfl
    rw [hg, hi] at h5
    unfold TV
    rw [show o / 31 = 0 by omega, show o % 31 = o by omega]
    show g o = ((tvL x f (0 * 27))[o]?).getD undef
    rw [show 0 + ((0 : Nat) : Int).toNat * 27 = 0 * 27 from rfl] at h5
    rw [h5]; rfl
/-- Up to the second loop. -/
theorem cr_up (hf : ∀ j, j < len → All2 Lf.ok lsTk (elAt f 27 j)) (h0 : 0 < len) {Φ : SLeaf → Prop} (h : ∀ v N, TrEnd x len f v N → SegTo Try.prog crF.ntmps (crI b x len cap f v) (crK b x len cap f) .normal Φ) :
    SegTo Try.prog crF.ntmps (lwE 11 b x len cap f) [.code (cdOf 11)] .normal Φ := by
  have hA := fun v => cr_A b x len cap f v
  unfold crA crAX at hA
  simp only [Prod.mk.injEq] at hA
  have hUp := fun v => (hA v).1
  have hGo1 := fun v => (hA v).2.1
  have hGo := fun v => (hA v).2.2.1
  have hOut := fun v => (hA v).2.2.2
  clear hA
  obtain ⟨cs, y, hw, hg⟩ := selW_map (hUp (rvV crD1 (crS b x len cap f).st))
  simp only [Prod.mk.injEq] at hg
  obtain ⟨k1, k2, k3, k4, -, -, k7⟩ := hg
  have hat := selW_G hw (by rw [k1]; exact all_nil)
  obtain ⟨S, hS⟩ := Option.isSome_iff_exists.1 k2
  have hSe : crS b x len cap f = S := by unfold crS; rw [hw]; simp only [Option.map_some, Option.bind_some, hS, Option.getD_some]
  have hx := stpOf_at hS
  rw [← hSe, k3] at hx
  have hK : (crS b x len cap f).rest = crK b x len cap f := by unfold crK; rfl
  rw [hK] at hx
  refine (caC_seg crT_eq hat).then_ hx ?_
  refine seg_block ?_
  have fam1 : ∀ v, (crS b x len cap f).st.apps (famW v 0 crD1) = some (crI1 b x len cap f v) := fun v => by
    obtain ⟨cs, y, hw, hg⟩ := selW_map (hUp v)
    simp only [Prod.mk.injEq] at hg
    obtain ⟨I, hI⟩ := Option.isSome_iff_exists.1 hg.2.2.2.2.1
    unfold crI1
    rw [hI, Option.getD_some]
  have fam : ∀ v, (crS b x len cap f).st.apps (famW v 0 crD) = some (crI b x len cap f v) := fun v => by
    obtain ⟨cs, y, hw, hg⟩ := selW_map (hUp v)
    simp only [Prod.mk.injEq] at hg
    obtain ⟨I, hI⟩ := Option.isSome_iff_exists.1 hg.2.2.2.2.2.1
    unfold crI
    rw [hI, Option.getD_some]
  have hz0 : (rvV crD1 (crS b x len cap f).st).i 0 = (0 : Nat) := by rw [rvV_i, k7]; rfl
  refine SegTo.each (I := crI b x len cap f) (F := fun v => ∃ N, TrEnd x len f v N) (loop_peel (k := 0) (rest := crK b x len cap f) (body := (crS b x len cap f).body) crD1 crD (fun p hp => List.mem_append_left _ hp) (crI1 b x len cap f) (crI b x len cap f) fam1 fam k4 (fun v => ∃ N, 0 < N ∧ TrInv x len f v N) _ (fun v => ((len : Int) - v.i 0).toNat) ?_ (fun v hv => ?_)) (fun v hv => ?_)
  · obtain ⟨cs, y, hw, hg⟩ := wayR_map (hGo1 (rvV crD1 (crS b x len cap f).st))
    obtain ⟨w1, w2, w3⟩ := wayR_at hw
    simp only [Option.some.injEq, Prod.mk.injEq] at hg
    obtain ⟨g1, g2, g3⟩ := hg
    obtain ⟨r, hr, hr2⟩ := Option.map_eq_some_iff.1 g3
    simp only [Prod.mk.injEq] at hr2
    obtain ⟨r1, r2, r3⟩ := hr2
    obtain ⟨s1, s2⟩ := seg_evC tbl_ok tbl_any caC_ok (crR1_eq (rvV crD1 (crS b x len cap f).st)) (w1 (by rw [g1]; exact lwC_ok hz0 ⟨h0, Nat.zero_lt_succ 79⟩ hf))
    obtain ⟨q1, q2, q3⟩ := rv_row hr
    exact ⟨y, s1, s2, w2, w3, 1, by omega, tr_first hz0 h0 g2 (q1.trans r1) (q2.trans r2) (by rw [q3, r2]) r3⟩
  · obtain ⟨k, hk0, hi⟩ := hv
    have hii := hi.hi
    by_cases hk : k < len ∧ k < 80
    · obtain ⟨cs, y, hw, hg⟩ := wayR_map (hGo v)
      obtain ⟨w1, w2, w3⟩ := wayR_at hw
      simp only [Option.some.injEq, Prod.mk.injEq] at hg
      obtain ⟨g1, g2, g3⟩ := hg
      obtain ⟨r, hr, hr2⟩ := Option.map_eq_some_iff.1 g3
      simp only [Prod.mk.injEq] at hr2
      obtain ⟨r1, r2, r3⟩ := hr2
      obtain ⟨s1, s2⟩ := seg_evC tbl_ok tbl_any caC_ok (crR_eq v) (w1 (by
        rw [g1]
        intro c hc
        rcases List.mem_append.1 hc with hc | hc
        · exact lwC_ok hii hk hf c hc
        · unfold lwC2 at hc
          rw [hi.hn, hi.hm] at hc
          simp only [List.mem_cons, List.not_mem_nil, or_false] at hc
          rcases hc with rfl | rfl
          · exact decide_eq_true (Nat.le_refl _)
          · exact decide_eq_true ⟨by omega, by omega⟩))
      obtain ⟨q1, q2, q3⟩ := rv_row hr
      have hnx := tr_next hi hk (u := rvV crD y) g2 (q1.trans r1) (q2.trans r2) (by rw [q3, r2, r3])
      have := hnx.hi
      exact ⟨.normal, y, s1, s2, w2, w3, Or.inl ⟨rfl, ⟨k + 1, by omega, hnx⟩, by omega⟩⟩
    · obtain ⟨cs, y, hw, hg⟩ := wayR_map (hOut v)
      obtain ⟨w1, w2, w3⟩ := wayR_at hw
      simp only [Prod.mk.injEq] at hg
      obtain ⟨g1, g8⟩ := hg
      obtain ⟨r, hr, hr2⟩ := Option.map_eq_some_iff.1 g8
      simp only [Prod.mk.injEq] at hr2
      obtain ⟨r1, r2, r3⟩ := hr2
      obtain ⟨s1, s2⟩ := seg_evC tbl_ok tbl_any caC_ok (crR_eq v) (w1 (by
        rw [g1]
        intro c hc
        simp only [List.mem_cons, List.not_mem_nil, or_false] at hc
        have hl : lg80 len (v.i 0) = false := by
          cases hl : lg80 len (v.i 0) with
          | false => rfl
          | true => have := lg80_iff.1 hl; exfalso; apply hk; omega
        rw [hc, hl]; rfl))
      obtain ⟨q1, q2, q3⟩ := rv_row hr
      refine ⟨.exit 0, y, s1, s2, w2, w3, Or.inr ⟨rfl, k, ⟨⟨hk0, hi.hle⟩, by rw [q1, r1, hi.hn], by rw [q2, r2, hi.hm], fun o ho => ?_⟩⟩⟩
      rw [q3, r2, hi.hm, r3, cut_lt ho]
      exact hi.hf o ho
  · obtain ⟨N, hi⟩ := hv
    exact h v N hi
/-! the second loop -/
section
variable {K A : Nat} {B : Bool} {v : FVal} {N : Nat}
/-- A moment's cells. -/
theorem mo_at (n : Nat → Int) (lag : Int) (T : Nat → Value) {k o : Nat} (ho : o < 10) : pF K A B n lag T (0 + k * 10 + o) = ((pM K A B n lag T (pN K A B n lag T k))[o]?).getD undef := by
  unfold pF
  rw [show (0 + k * 10 + o) / 10 = k by omega, show (0 + k * 10 + o) % 10 = o by omega]
/-- A tick with a crash, or water. -/
def evB (v : FVal) (r : Nat) (j : Nat) : Bool := vbOf (v.f 1 (r * 31 + j))
/-- What holds ahead of round k of the second loop. -/
structure CrInv (v u : FVal) (N k : Nat) : Prop where
  hi : u.i 0 = k
  hle : k ≤ N
  c1 : 0 ≤ u.i 1 ∧ u.i 1 ≤ k ∧ ∀ r : Nat, (k : Int) - u.i 1 ≤ r → r < k → evB v r 25 = true
  c2 : 0 ≤ u.i 2 ∧ u.i 2 ≤ k ∧ ∀ r : Nat, (k : Int) - u.i 2 ≤ r → r < k → evB v r 26 = true
theorem cnt_next {v : FVal} {k j : Nat} {c : Int} (hk : k < 80) (hc : 0 ≤ c ∧ c ≤ k ∧ ∀ r : Nat, (k : Int) - c ≤ r → r < k → evB v r j = true) {c' : Int} (h' : c' = bif !evB v k j then 0 else IntKind.i64.wrap (c + 1)) :
    0 ≤ c' ∧ c' ≤ ((k + 1 : Nat) : Int) ∧ (∀ r : Nat, ((k + 1 : Nat) : Int) - c' ≤ r → r < k + 1 → evB v r j = true) := by
  obtain ⟨h1, h2, h3⟩ := hc
  cases he : evB v k j with
  | false =>
    rw [he] at h'
    have h' : c' = 0 := h'
    subst h'
    exact ⟨by omega, by omega, fun r hr hr2 => by omega⟩
  | true =>
    rw [he] at h'
    have h' : c' = c + 1 := by rw [h']; show IntKind.i64.wrap (c + 1) = _; exact w64 (by omega)
    subst h'
    refine ⟨by omega, by omega, fun r hr hr2 => ?_⟩
    rcases Nat.eq_or_lt_of_le (Nat.le_of_lt_succ hr2) with h | h
    · subst h; exact he
    · exact h3 r (by omega) h
theorem cr_bad (hx : LfOk x) (hf : ∀ j, j < len → All2 Lf.ok lsTk (elAt f 27 j)) (hv : TrEnd x len f v N) {u : FVal} {k : Nat} (hu : CrInv v u N k) (hk : k < N) (hK : K ≤ 6) :
    (∀ c ∈ lwD K A B x v u, c = true) ∧ badB K A B x v u = false := by
  have hle := hv.hle
  have hi := hu.hi
  have hti : (u.i 0).toNat = k := by rw [hi]; rfl
  have htru : ∀ r, r < N → truOk (v.f 1) r = true := fun r hr => row_ok hx hf hle.2.1 hv.hf hr
  have hpos : ∀ r, r < N → posB (trI (v.f 1) (r * 31)) = true := fun r hr => by
    have := htru r hr
    unfold truOk at this
    rw [Bool.and_eq_true] at this
    exact this.2
  have la := la_eq hx
  have hL : laI x = ((x 3 % 6).toNat : Nat) := by unfold laI; rw [la.1]; omega
  have hL5 : (x 3 % 6).toNat ≤ 7 := by omega
  have hrow : k * 31 + 31 ≤ N * 31 := by have := Nat.mul_le_mul_right 31 (show k + 1 ≤ N from hk); omega
  have hmo : ∀ o, o < 10 → moF K A B x v u o = ((pM K A B (nOf (gsL (guN x))) (laI x) (v.f 1) (pN K A B (nOf (gsL (guN x))) (laI x) (v.f 1) k))[o]?).getD undef := fun o ho => by
    unfold moF
    rw [hti]
    exact mo_at _ _ _ ho
  have hin : inB v u = true := by unfold inB; rw [hi, hv.hn]; exact decide_eq_true ⟨by omega, by omega⟩
  have m1 : moF K A B x v u 1 = .int .i64 (pI K A B (nOf (gsL (guN x))) (v.f 1) (pN K A B (nOf (gsL (guN x))) (laI x) (v.f 1) k) 1) := by rw [hmo 1 (by omega)]; rfl
  have m9 : moF K A B x v u 9 = .bool (pQ K A B (nOf (gsL (guN x))) (laI x) (v.f 1) (pN K A B (nOf (gsL (guN x))) (laI x) (v.f 1) k)) := by rw [hmo 9 (by omega)]; rfl
  have b1 : decide (0 + (u.i 0).toNat * 10 + 1 < v.n 1 * 10) = true := by rw [hti, hv.hn]; exact decide_eq_true (by omega)
  have b9 : decide (0 + (u.i 0).toNat * 10 + 9 < v.n 1 * 10) = true := by rw [hti, hv.hn]; exact decide_eq_true (by omega)
  have v1 : (Lf.i IntKind.i64).isV (moF K A B x v u 1) = true := by rw [m1]; rfl
  have v9 : Lf.b.isV (moF K A B x v u 9) = true := by rw [m9]; rfl
  have p3 : ∀ c ∈ pt3 K A B x v u, c = true := by
    intro c hc
    unfold pt3 at hc
    simp only [List.mem_cons, List.not_mem_nil, or_false] at hc
    rcases hc with rfl | rfl | rfl
    · exact hin
    · exact b9
    · exact v9
  have p6 : ∀ c ∈ pt6 K A B x v u, c = true := by
    intro c hc
    unfold pt6 at hc
    rcases List.mem_append.1 hc with hc | hc
    · obtain ⟨d, hd, rfl⟩ := List.mem_map.1 hc; rw [p3 d hd, Bool.or_true]
    · obtain ⟨d, hd, rfl⟩ := List.mem_map.1 hc; rw [p3 d hd, Bool.or_true, Bool.or_true]
  have p9 : ∀ c ∈ ca9 K A B x v u, c = true := by
    intro c hc
    unfold ca9 at hc
    rcases List.mem_append.1 hc with hc | hc
    · simp only [List.mem_cons, List.not_mem_nil, or_false] at hc
      rcases hc with rfl | rfl | rfl
      · exact hin
      · exact b1
      · exact v1
    · obtain ⟨d, hd, rfl⟩ := List.mem_map.1 hc; rw [p6 d hd, Bool.or_true]
  refine ⟨fun c hc => ?_, ?_⟩
  · unfold lwD at hc
    rcases List.mem_append.1 hc with hc | hc
    · have e25 := row_bool (j := 25) hv.hf hk (by omega)
      have e26 := row_bool (j := 26) hv.hf hk (by omega)
      rw [hti, Nat.zero_add, e25, e26, hi, hv.hn, hv.hm] at hc
      simp only [List.mem_cons, List.not_mem_nil, or_false] at hc
      rcases hc with rfl | rfl | rfl | rfl | rfl | rfl | rfl
      · exact decide_eq_true (by omega)
      · exact hin
      · exact decide_eq_true (by omega)
      · rfl
      · exact hin
      · exact decide_eq_true (by omega)
      · rfl
    · rcases List.mem_append.1 hc with hc | hc
      · obtain ⟨d, hd, rfl⟩ := List.mem_map.1 hc; rw [p9 d hd, Bool.or_true]
      · rcases List.mem_append.1 hc with hc | hc
        · obtain ⟨d, hd, rfl⟩ := List.mem_map.1 hc; rw [p9 d hd, Bool.or_true, Bool.or_true]
        · obtain ⟨d, hd, rfl⟩ := List.mem_map.1 hc; rw [p6 d hd, Bool.or_true, Bool.or_true]
  · have ecc : ccI v u = bif !evB v k 25 then 0 else IntKind.i64.wrap (u.i 1 + 1) := by unfold ccI evB; rw [hti, Nat.zero_add]
    have eww : wwI v u = bif !evB v k 26 then 0 else IntKind.i64.wrap (u.i 2 + 1) := by unfold wwI evB; rw [hti, Nat.zero_add]
    have n1 := cnt_next (by omega) hu.c1 ecc
    have n2 := cnt_next (by omega) hu.c2 eww
    have hcau : ∀ r, r < N → (evB v r 25 = true ∨ evB v r 26 = true) → pI K A B (nOf (gsL (guN x))) (v.f 1) (pN K A B (nOf (gsL (guN x))) (laI x) (v.f 1) r) 1 ≠ 0 := fun r hr h => ev_cause (hpos r hr) h
    have hopen : ∀ j, (j = 25 ∨ j = 26) → ∀ c : Int, c ≤ ((k + 1 : Nat) : Int) → (∀ r : Nat, ((k + 1 : Nat) : Int) - c ≤ r → r < k + 1 → evB v r j = true) → c > laI x → pQ K A B (nOf (gsL (guN x))) (laI x) (v.f 1) (pN K A B (nOf (gsL (guN x))) (laI x) (v.f 1) k) = false := by
      intro j hj c hc1 hc2 hc3
      have hkl : (x 3 % 6).toNat ≤ k := by omega
      refine path_open K A B _ _ _ (x 3 % 6).toNat hL hL5 hK hkl (cause_off (hpos _ (by omega)) (hcau _ (by omega) ?_))
      have := hc2 (k - (x 3 % 6).toNat) (by omega) (by omega)
      rcases hj with rfl | rfl
      · exact Or.inl this
      · exact Or.inr this
    have hp6 : p6B K A B x v u = false := by
      unfold p6B
      rw [m9]
      by_cases c1 : ccI v u > laI x
      · rw [decide_eq_true c1]; exact hopen 25 (Or.inl rfl) _ n1.2.1 n1.2.2 c1
      · rw [decide_eq_false c1]
        by_cases c2 : wwI v u > laI x
        · rw [decide_eq_true c2]; exact hopen 26 (Or.inr rfl) _ n2.2.1 n2.2.2 c2
        · rw [decide_eq_false c2]; rfl
    have hz : (evB v k 25 = true ∨ evB v k 26 = true) → (viOf (moF K A B x v u 1) == 0) = false := fun h => by
      rw [m1]
      have := hcau k hk h
      show (pI K A B _ (v.f 1) _ 1 == 0) = false
      simpa using this
    unfold badB
    rw [hp6]
    by_cases c1 : ccI v u > 0
    · rw [decide_eq_true c1, hz (Or.inl (n1.2.2 k (by omega) (by omega)))]; rfl
    · rw [decide_eq_false c1]
      by_cases c2 : wwI v u > 0
      · rw [decide_eq_true c2, hz (Or.inr (n2.2.2 k (by omega) (by omega)))]; rfl
      · rw [decide_eq_false c2]; rfl
end
end
end Go.Proofs.Ytgiinciclnekjaa

/-
  The law ProtectCrash: joined.
-/
set_option linter.unusedSimpArgs false
set_option linter.unusedVariables false
namespace Go.Proofs.Ytgiinciclnekjaa
open Sx Go.RowKit
theorem cR_in {y : Int} (h : 0 ≤ y ∧ y ≤ 1099511627776) : cR y = false := by
  unfold cR
  rw [decide_eq_false (by omega), decide_eq_false (by omega)]; rfl
theorem tk_in {y : Int} (h : 1 ≤ y ∧ y ≤ 100) : tk y = true := by
  unfold tk
  rw [decide_eq_true (show y ≥ 1 from h.1), decide_eq_true h.2]; rfl
theorem chk_of {n : Nat → Int} (h1 : ∀ j, j < 11 ∨ j = 21 → cR (n j) = false) (h2 : ∀ i, i < 7 → tk (n (11 + i)) = true) (h3 : 1 ≤ n 18 ∧ n 18 ≤ 65536) (h4 : tk (n 19) = true) (h5 : tk (n 20) = true) : chkR n = 0 := by
  unfold chkR
  have e1 : (qsG n).map cR = List.replicate 12 false := by
    show [cR (n 0), cR (n 1), cR (n 2), cR (n 3), cR (n 4), cR (n 5), cR (n 21), cR (n 6), cR (n 7), cR (n 8), cR (n 9), cR (n 10)] = _
    rw [h1 0 (by omega), h1 1 (by omega), h1 2 (by omega), h1 3 (by omega), h1 4 (by omega), h1 5 (by omega), h1 21 (by omega), h1 6 (by omega), h1 7 (by omega), h1 8 (by omega), h1 9 (by omega), h1 10 (by omega)]
    rfl
  have e2 : (dsG n).map (fun x => !tk x) = List.replicate 7 false := by
    show [!tk (n 11), !tk (n 12), !tk (n 13), !tk (n 14), !tk (n 15), !tk (n 16), !tk (n 17)] = _
    rw [show n 11 = n (11 + 0) from rfl, h2 0 (by omega), show n 12 = n (11 + 1) from rfl, h2 1 (by omega), show n 13 = n (11 + 2) from rfl, h2 2 (by omega), show n 14 = n (11 + 3) from rfl, h2 3 (by omega), show n 15 = n (11 + 4) from rfl, h2 4 (by omega), show n 16 = n (11 + 5) from rfl, h2 5 (by omega), show n 17 = n (11 + 6) from rfl, h2 6 (by omega)]
    rfl
  have e3 : lastG n = false := by
    unfold lastG
    rw [decide_eq_false (by omega), decide_eq_false (by omega), h4, h5]; rfl
  rw [e1, e2, e3]
  rfl
theorem chk_gu {x : Nat → Int} (hx : LfOk x) : chkR (guN x) = 0 := by
  have o := gu_open hx
  refine chk_of (fun j hj => ?_) (fun i hi => ?_) ⟨by show (1 : Int) ≤ 58982; decide, by show (58982 : Int) ≤ 65536; decide⟩ rfl (by rw [o.1]; exact tk_in (by omega))
  · by_cases h : 6 ≤ j ∧ j < 11
    · obtain ⟨q, rfl⟩ : ∃ q, j = 6 + q := ⟨j - 6, by omega⟩
      have s := gu_spread hx (q := q) (by omega)
      rw [s.1]; exact cR_in (by omega)
    · rcases (show j = 0 ∨ j = 1 ∨ j = 2 ∨ j = 3 ∨ j = 4 ∨ j = 5 ∨ j = 21 by omega) with rfl | rfl | rfl | rfl | rfl | rfl | rfl <;> rfl
  · have d := gu_deb hx hi
    rw [d.1]; exact tk_in (by omega)
section
variable {b : Nat → Bool} {x : Nat → Int} {len cap : Nat} {f : Nat → Value}
theorem kd_eq (hx : LfOk x) : kdI x = x 0 % 7 ∧ 0 ≤ x 0 % 7 ∧ x 0 % 7 < 7 := by
  have h := hx 0 (by omega) (by omega)
  refine ⟨?_, by omega, by omega⟩
  unfold kdI
  rw [w64 (by omega), Int.tmod_eq_emod_of_nonneg h.1]
theorem pa_eq (hx : LfOk x) : plaI x = x 1 % 3 ∧ 0 ≤ x 1 % 3 ∧ x 1 % 3 < 3 := by
  have h := hx 1 (by omega) (by omega)
  refine ⟨?_, by omega, by omega⟩
  unfold plaI
  rw [w64 (by omega), Int.tmod_eq_emod_of_nonneg h.1]
theorem fd_ok (hx : LfOk x) {kz : Bool} (h : kz = (kdI x == 0)) : ∀ c ∈ fdB b x kz, c = true := by
  intro c hc
  have k := kd_eq hx
  have a := pa_eq hx
  unfold fdB at hc
  cases kz with
  | true =>
    simp only [cond_true, List.mem_cons, List.not_mem_nil, or_false] at hc
    rcases hc with rfl | rfl
    · exact h.symm
    · rfl
  | false =>
    simp only [cond_false, List.mem_cons, List.not_mem_nil, or_false] at hc
    have hne : kdI x ≠ 0 := by
      intro e; rw [e] at h; cases h
    rcases hc with rfl | rfl
    · rw [← h]; rfl
    · rw [Bool.and_eq_true]
      refine ⟨decide_eq_true (by omega), ?_⟩
      cases hb : alB b x with
      | false => rfl
      | true =>
        unfold alB at hb
        cases h2 : b 2 with
        | false => rw [h2, cond_false] at hb; cases hb
        | true =>
          rw [h2, cond_true] at hb
          show decide (5 ≤ kdI x) = true
          refine decide_eq_true ?_
          by_cases h5 : kdI x = 5
          · omega
          · have : (kdI x == 5) = false := by simpa using h5
            rw [this, cond_false] at hb
            have : kdI x = 6 := by simpa using hb
            omega
theorem cr_fin {kz : Bool} {K A : Nat} {B : Bool} (hx : LfOk x) (hf : ∀ j, j < len → All2 Lf.ok lsTk (elAt f 27 j)) {v : FVal} {N : Nat} (hv : TrEnd x len f v N) (hB : ∀ u, crB b x len cap f kz v u = crBX b x kz v u K A B) (hfd : ∀ c ∈ fdB b x kz, c = true) (hK : K ≤ 6) :
    SegTo Try.prog crF.ntmps (crI b x len cap f v) (crK b x len cap f) .normal (LwEnd 11) := by
  have hle := hv.hle
  have hB' := hB
  unfold crB crBX at hB'
  simp only [Prod.mk.injEq] at hB'
  have hUp := fun u => (hB' u).1
  have hGo := fun u => (hB' u).2.1
  have hOut := fun u => (hB' u).2.2.1
  have hEnd := fun u => (hB' u).2.2.2
  clear hB hB'
  have htru : ∀ r, r < N → truOk (v.f 1) r = true := fun r hr => row_ok hx hf hle.2.1 hv.hf hr
  have la := la_eq hx
  have hpl : plDem (nOf (gsL (guN x))) (laI x) (v.n 1) (v.m 1) = true := by
    unfold plDem
    rw [Bool.and_eq_true, Bool.and_eq_true, hv.hn, hv.hm]
    refine ⟨?_, decide_eq_true ?_, decide_eq_true ⟨hle.1, by omega, Nat.le_refl _⟩⟩
    · have : chkR (nOf (gsL (nOf (gsL (guN x))))) = chkR (guN x) := rfl
      rw [this, chk_gu hx]; rfl
    · show 0 ≤ laI x ∧ laI x ≤ 7
      unfold laI; rw [la.1]; omega
  obtain ⟨cs, y, hw, hg⟩ := selW_map (hUp ⟨fun _ => false, fun _ => 0, fun _ => 0, fun _ => 0, fun _ _ => undef⟩)
  simp only [Prod.mk.injEq] at hg
  obtain ⟨k1, k2, k3, k4, -, k7, k8, k9⟩ := hg
  have hat := selW_G hw (by
    rw [k1]
    intro c hc
    rcases List.mem_append.1 hc with hc | hc
    · exact hfd c hc
    · simp only [List.mem_cons, List.not_mem_nil, or_false] at hc
      rcases hc with rfl | rfl | rfl
      · exact hpl
      · rw [hv.hn]; exact List.all_eq_true.2 fun j hj => htru j (List.mem_range.1 hj)
      · simp)
  obtain ⟨S, hS⟩ := Option.isSome_iff_exists.1 k2
  have hSe : crS2 b x len cap f kz v = S := by unfold crS2; rw [hw]; simp only [Option.map_some, Option.bind_some, hS, Option.getD_some]
  have hxx := stpOf_at hS
  rw [← hSe, k3] at hxx
  have hKK : (crS2 b x len cap f kz v).rest = crK2 b x len cap f kz v := by unfold crK2; rfl
  rw [hKK] at hxx
  refine (caC_seg (crT2_eq v) hat).then_ hxx ?_
  refine seg_block ?_
  have fam : ∀ u, (crS2 b x len cap f kz v).st.apps (famW u 0 crD2) = some (crI2 b x len cap f kz v u) := fun u => by
    obtain ⟨cs, y, hw, hg⟩ := selW_map (hUp u)
    simp only [Prod.mk.injEq] at hg
    obtain ⟨I, hI⟩ := Option.isSome_iff_exists.1 hg.2.2.2.2.1
    unfold crI2
    rw [hI, Option.getD_some]
  refine loop_then (k := 2) (rest := crK2 b x len cap f kz v) (body := (crS2 b x len cap f kz v).body) crD2 (σ := (crS2 b x len cap f kz v).st) (crI2 b x len cap f kz v) fam k4 (fun u => ∃ k, CrInv v u N k) (fun _ => True) (fun u => ((N : Int) - u.i 0).toNat) ⟨0, ?_⟩ (fun u hu => ?_) (fun u _ => ?_)
  · refine ⟨by rw [rvV_i, k7]; rfl, Nat.zero_le _, ?_, ?_⟩
    · rw [rvV_i, k8]; exact ⟨by omega, by omega, fun r h1 h2 => by omega⟩
    · rw [rvV_i, k9]; exact ⟨by omega, by omega, fun r h1 h2 => by omega⟩
  · obtain ⟨k, hu⟩ := hu
    have hi := hu.hi
    have hti : (u.i 0).toNat = k := by rw [hi]; rfl
    by_cases hk : k < N
    · obtain ⟨cs, y, hw, hg⟩ := wayR_map (hGo u)
      obtain ⟨w1, w2, w3⟩ := wayR_at hw
      simp only [Prod.mk.injEq] at hg
      obtain ⟨g1, g2, g3, g4⟩ := hg
      obtain ⟨d1, d2⟩ := cr_bad (K := K) (A := A) (B := B) hx hf hv hu hk hK
      obtain ⟨s1, s2⟩ := seg_evC tbl_ok tbl_any caC_ok (crR2_eq kz v u) (w1 (by
        rw [g1]
        intro c hc
        rcases List.mem_append.1 hc with hc | hc
        · exact d1 c hc
        · simp only [List.mem_cons, List.not_mem_nil, or_false] at hc
          rw [hc, d2]; rfl))
      have e0 : (rvV crD2 y).i 0 = u.i 0 + 1 := by
        rw [rvV_i, g2, hi]
        exact w64 (by omega)
      have ecc : (rvV crD2 y).i 1 = bif !evB v k 25 then 0 else IntKind.i64.wrap (u.i 1 + 1) := by
        rw [rvV_i, g3]; unfold ccI evB; rw [hti, Nat.zero_add]
      have eww : (rvV crD2 y).i 2 = bif !evB v k 26 then 0 else IntKind.i64.wrap (u.i 2 + 1) := by
        rw [rvV_i, g4]; unfold wwI evB; rw [hti, Nat.zero_add]
      exact ⟨.normal, y, s1, s2, w2, w3, Or.inl ⟨rfl, ⟨k + 1, by rw [e0, hi]; omega, hk, cnt_next (by omega) hu.c1 ecc, cnt_next (by omega) hu.c2 eww⟩, by omega⟩⟩
    · have hkn : k = N := Nat.le_antisymm hu.hle (by omega)
      obtain ⟨cs, y, hw, hg⟩ := wayR_map (hOut u)
      obtain ⟨w1, w2, w3⟩ := wayR_at hw
      simp only at hg
      obtain ⟨s1, s2⟩ := seg_evC tbl_ok tbl_any caC_ok (crR2_eq kz v u) (w1 (by
        rw [hg]
        intro c hc
        simp only [List.mem_cons, List.not_mem_nil, or_false] at hc
        rw [hc, hv.hn, decide_eq_false (by omega)]; rfl))
      exact ⟨.exit 2, y, s1, s2, w2, w3, Or.inr ⟨rfl, trivial⟩⟩
  · obtain ⟨cs, y, hw, hg⟩ := selW_map (hEnd u)
    simp only [Prod.mk.injEq] at hg
    obtain ⟨q1, q2⟩ := hg
    have hat := selW_G hw (by rw [q1]; exact all_nil)
    exact (caC_seg (crX_eq kz v u) hat).to (retB_end q2)
theorem cr_seg (hx : LfOk x) (hf : ∀ j, j < len → All2 Lf.ok lsTk (elAt f 27 j)) (h0 : 0 < len) :
    SegTo Try.prog crF.ntmps (lwE 11 b x len cap f) [.code (cdOf 11)] .normal (LwEnd 11) := by
  refine cr_up hf h0 fun v N hv => ?_
  have k := kd_eq hx
  cases hk : (kdI x == 0) with
  | true => exact cr_fin hx hf hv (fun u => cr_B0 b x len cap f v u) (fd_ok hx hk.symm) (by omega)
  | false => exact cr_fin hx hf hv (fun u => cr_B1 b x len cap f v u) (fd_ok hx hk.symm) (by omega)
end
end Go.Proofs.Ytgiinciclnekjaa
