/-
  ProtectVoting in plain numbers.
-/
import Derived.Test.YtgiinciclnekjaaVg
set_option linter.unusedSimpArgs false
set_option linter.unusedVariables false
namespace Go.Proofs.Ytgiinciclnekjaa
open Sx Go.RowKit
theorem kG_gs {s X : Int} (hX : X = 0 ∨ X = 1 ∨ X = 2 ∨ X = 3 ∨ X = 4) (h0 : 0 ≤ s) (h1 : s ≤ 65535) : kG (nOf (gsV s X)) = false := by
  have c1 : cR s = false := by
    unfold cR
    simp [show ¬ s < 0 by omega, show ¬ 1099511627776 < s by omega]
  unfold kG chkR
  rcases hX with rfl | rfl | rfl | rfl | rfl
  · have e : (qsG (nOf (gsV s 0))).map cR = [false, false, false, false, false, false, false, cR s, false, false, false, false] := rfl
    rw [e, c1]; rfl
  · have e : (qsG (nOf (gsV s 1))).map cR = [false, false, false, false, false, false, false, false, cR s, false, false, false] := rfl
    rw [e, c1]; rfl
  · have e : (qsG (nOf (gsV s 2))).map cR = [false, false, false, false, false, false, false, false, false, cR s, false, false] := rfl
    rw [e, c1]; rfl
  · have e : (qsG (nOf (gsV s 3))).map cR = [false, false, false, false, false, false, false, false, false, false, cR s, false] := rfl
    rw [e, c1]; rfl
  · have e : (qsG (nOf (gsV s 4))).map cR = [false, false, false, false, false, false, false, false, false, false, false, cR s] := rfl
    rw [e, c1]; rfl
/-- Where the third channel stands. -/
def at3 {α : Type} (f : Bool → Bool → Bool → Int → Int → Int → Int → α) (Y : Int) (u : Bool) (th g0 g1 s : Int) : α :=
  if Y = 0 then f u true true th g0 g1 s else if Y = 1 then f true u true g0 th g1 s else f true true u g0 g1 th s
theorem sLo_at {s X Y th g0 g1 : Int} {mu v : Bool} (hX : X = 0 ∨ X = 1 ∨ X = 2 ∨ X = 3 ∨ X = 4) (hY : Y = 0 ∨ Y = 1 ∨ Y = 2) :
    sLo (nOf (gsV s X)) (bOf (csV mu g0 g1 th X Y)) (bOf (bsV v Y)) (L18 (bOf (csV mu g0 g1 th X Y)) (nOf (csV mu g0 g1 th X Y))) X = at3 vLo Y (us (!mu) v) th g0 g1 s := by
  rcases hX with rfl | rfl | rfl | rfl | rfl <;> rcases hY with rfl | rfl | rfl <;> rfl
theorem sHi_at {s X Y th g0 g1 : Int} {mu v : Bool} (hX : X = 0 ∨ X = 1 ∨ X = 2 ∨ X = 3 ∨ X = 4) (hY : Y = 0 ∨ Y = 1 ∨ Y = 2) :
    sHi (nOf (gsV s X)) (bOf (csV mu g0 g1 th X Y)) (bOf (bsV v Y)) (L18 (bOf (csV mu g0 g1 th X Y)) (nOf (csV mu g0 g1 th X Y))) X = at3 vHi Y (us (!mu) v) th g0 g1 s := by
  rcases hX with rfl | rfl | rfl | rfl | rfl <;> rcases hY with rfl | rfl | rfl <;> rfl
theorem sOk_at {s X Y th g0 g1 : Int} {mu v : Bool} (hX : X = 0 ∨ X = 1 ∨ X = 2 ∨ X = 3 ∨ X = 4) (hY : Y = 0 ∨ Y = 1 ∨ Y = 2) :
    sOk (nOf (gsV s X)) (bOf (csV mu g0 g1 th X Y)) (bOf (bsV v Y)) (L18 (bOf (csV mu g0 g1 th X Y)) (nOf (csV mu g0 g1 th X Y))) X = at3 vOk Y (us (!mu) v) th g0 g1 s := by
  rcases hX with rfl | rfl | rfl | rfl | rfl <;> rcases hY with rfl | rfl | rfl <;> rfl
theorem u64_wrap (x : Int) : IntKind.u64.wrap x = x % 18446744073709551616 := by
  simp [IntKind.wrap, IntKind.bits, IntKind.signed]
theorem far_no {a b s : Int} (h1 : a ≤ b) (h2 : b - a ≤ s) (h3 : s ≤ 65535) : farV a b s = false := by
  unfold farV
  have e1 : mm true a b = b := by unfold mm; simp; omega
  have e2 : mm false a b = a := by unfold mm; simp; omega
  rw [e1, e2, u64_wrap, u64_wrap, u64_wrap, u64_wrap]
  simp only [decide_eq_false_iff_not]
  omega
theorem pair_in {a b x h s : Int} (a1 : x - h ≤ a) (a2 : a ≤ x + h) (b1 : x - h ≤ b) (b2 : b ≤ x + h) (hs : 2 * h ≤ s) (h3 : s ≤ 65535) :
    pOk a b s = true ∧ pLo a b s ≤ pHi a b s ∧ x - h ≤ pLo a b s ∧ pHi a b s ≤ x + h := by
  have hf : farV (lo2 a b) (hi2 a b) s = false := by
    rw [lo_min, hi_max]
    exact far_no (by omega) (by omega) h3
  unfold pOk pLo pHi
  rw [hf, lo_min, hi_max]
  simp only [Bool.not_false, cond_true]
  refine ⟨trivial, by omega, by omega, by omega⟩
theorem vote_in {Y th g0 g1 s x h : Int} (u : Bool) (hY : Y = 0 ∨ Y = 1 ∨ Y = 2) (a1 : x - h ≤ g0) (a2 : g0 ≤ x + h) (b1 : x - h ≤ g1) (b2 : g1 ≤ x + h) (hs : 2 * h ≤ s) (h3 : s ≤ 65535) :
    at3 vOk Y u th g0 g1 s = true ∧ at3 vLo Y u th g0 g1 s ≤ at3 vHi Y u th g0 g1 s ∧ x - h ≤ at3 vLo Y u th g0 g1 s ∧ at3 vHi Y u th g0 g1 s ≤ x + h := by
  have hp := pair_in a1 a2 b1 b2 hs h3
  rcases hY with rfl | rfl | rfl <;> cases u
  · exact hp
  · show true = true ∧ med th g0 g1 ≤ med th g0 g1 ∧ x - h ≤ med th g0 g1 ∧ med th g0 g1 ≤ x + h
    rw [med_mm]
    refine ⟨rfl, by omega, by omega, by omega⟩
  · exact hp
  · show true = true ∧ med g0 th g1 ≤ med g0 th g1 ∧ x - h ≤ med g0 th g1 ∧ med g0 th g1 ≤ x + h
    rw [med_mm]
    refine ⟨rfl, by omega, by omega, by omega⟩
  · exact hp
  · show true = true ∧ med g0 g1 th ≤ med g0 g1 th ∧ x - h ≤ med g0 g1 th ∧ med g0 g1 th ≤ x + h
    rw [med_mm]
    refine ⟨rfl, by omega, by omega, by omega⟩
theorem chV_no {s X Y th g0 g1 x h : Int} {mu v : Bool} (hX : X = 0 ∨ X = 1 ∨ X = 2 ∨ X = 3 ∨ X = 4) (hY : Y = 0 ∨ Y = 1 ∨ Y = 2) (s0 : 0 ≤ s) (s1 : s ≤ 65535) (hs : 2 * h ≤ s) (hx : -2147483648 ≤ x) (hx2 : x ≤ 2147483647) (h0 : 0 ≤ h)
    (a1 : x - h ≤ g0) (a2 : g0 ≤ x + h) (b1 : x - h ≤ g1) (b2 : g1 ≤ x + h) : chV (gsV s X) (csV mu g0 g1 th X Y) (bsV v Y) X x h = false := by
  have hk := kG_gs hX s0 s1
  have ho : oP X = false := by rw [oP_eq]; simp; omega
  obtain ⟨q1, q2, q3, q4⟩ := vote_in (th := th) (us (!mu) v) hY a1 a2 b1 b2 hs s1
  have w1 : IntKind.i64.wrap (x - h) = x - h := Go.IntWalk.i64_in _ ⟨by omega, by omega⟩
  have w2 : IntKind.i64.wrap (x + h) = x + h := Go.IntWalk.i64_in _ ⟨by omega, by omega⟩
  unfold chV erV okV loV hiV
  rw [sOk_at hX hY, sLo_at hX hY, sHi_at hX hY, hk, ho, q1, w1, w2]
  simp only [cond_false, Bool.not_true, bne_self_eq_false]
  have e1 : decide (at3 vLo Y (us (!mu) v) th g0 g1 s > at3 vHi Y (us (!mu) v) th g0 g1 s) = false := by simp; omega
  have e2 : decide (at3 vLo Y (us (!mu) v) th g0 g1 s < x - h) = false := by simp; omega
  have e3 : decide (at3 vHi Y (us (!mu) v) th g0 g1 s > x + h) = false := by simp; omega
  rw [e1, e2, e3]
  rfl
theorem muV_true {X Y H : Int} (hX : 0 ≤ X ∧ X < 5) (hY : Y = 0 ∨ Y = 1 ∨ Y = 2) (hH : H ≠ 0) : ∀ b ∈ muV X Y H, b = true := by
  have e5 : decide (0 ≤ X ∧ X < ((5 : Nat) : Int)) = true := by simp; omega
  have eH : (H != 0) = true := by simpa using hH
  unfold muV
  simp only [e5, eH]
  intro b hb
  rcases hY with rfl | rfl | rfl <;> simp only [List.mem_cons, List.not_mem_nil, or_false] at hb <;> rcases hb with rfl | rfl | rfl | rfl | rfl | rfl | rfl | rfl | rfl | rfl | rfl | rfl | rfl | rfl <;> rfl
end Go.Proofs.Ytgiinciclnekjaa
