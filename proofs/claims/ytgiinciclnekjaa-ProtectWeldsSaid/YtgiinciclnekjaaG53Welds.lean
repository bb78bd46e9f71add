/-
  Votes under one fault: two of three channels are right.
-/
import Derived.Test.YtgiinciclnekjaaG52Welds
set_option linter.unusedSimpArgs false
set_option linter.unusedVariables false
namespace Go.Proofs.Ytgiinciclnekjaa
open Sx Go.RowKit
theorem wrapU64 (x : Int) : IntKind.u64.wrap x = x % 18446744073709551616 := by
  simp [IntKind.wrap, IntKind.bits, IntKind.signed]
theorem far_near {a b s : Int} (h1 : a - b ≤ s) (h2 : b - a ≤ s) (h0 : 0 ≤ s) (h3 : s ≤ 65535) : farV a b s = false := by
  unfold farV
  rcases Int.le_total a b with h | h
  · have e1 : mm true a b = b := by unfold mm; simp; omega
    have e2 : mm false a b = a := by unfold mm; simp; omega
    rw [e1, e2, wrapU64, wrapU64, wrapU64, wrapU64]
    simp only [decide_eq_false_iff_not]
    omega
  · have e1 : mm true a b = a := by unfold mm; simp; omega
    have e2 : mm false a b = b := by unfold mm; simp; omega
    rw [e1, e2, wrapU64, wrapU64, wrapU64, wrapU64]
    simp only [decide_eq_false_iff_not]
    omega
theorem pair_near {a b x h s : Int} (a1 : x - h ≤ a) (a2 : a ≤ x + h) (b1 : x - h ≤ b) (b2 : b ≤ x + h) (hs : 2 * h ≤ s) (h0 : 0 ≤ s) (h3 : s ≤ 65535) :
    pOk a b s = true ∧ x - h ≤ pLo a b s ∧ pLo a b s ≤ pHi a b s ∧ pHi a b s ≤ x + h := by
  have hf : farV (lo2 a b) (hi2 a b) s = false := by
    rw [lo_min, hi_max]
    exact far_near (by omega) (by omega) h0 h3
  unfold pOk pLo pHi
  rw [hf, lo_min, hi_max]
  simp only [Bool.not_false, cond_true]
  refine ⟨trivial, by omega, by omega, by omega⟩
/-- Which channel may be wrong. -/
def fCh (K A : Nat) : Nat := if K = 1 ∨ K = 2 then A else 0
/-- Two of three numbers are near. -/
def TwoNear (F : Nat) (w0 w1 w2 x h : Int) : Prop := (F = 0 ∧ x - h ≤ w1 ∧ w1 ≤ x + h ∧ x - h ≤ w2 ∧ w2 ≤ x + h) ∨ (F = 1 ∧ x - h ≤ w0 ∧ w0 ≤ x + h ∧ x - h ≤ w2 ∧ w2 ≤ x + h) ∨ (F = 2 ∧ x - h ≤ w0 ∧ w0 ≤ x + h ∧ x - h ≤ w1 ∧ w1 ≤ x + h)
theorem med_near {F : Nat} {w0 w1 w2 x h : Int} (hw : TwoNear F w0 w1 w2 x h) : x - h ≤ med w0 w1 w2 ∧ med w0 w1 w2 ≤ x + h := by
  rw [med_mm]
  rcases hw with ⟨_, a, b, c, d⟩ | ⟨_, a, b, c, d⟩ | ⟨_, a, b, c, d⟩ <;> exact ⟨by omega, by omega⟩
/-- The votes. -/
theorem vote_near {F : Nat} {w0 w1 w2 x h s : Int} {u0 u1 u2 : Bool} (hw : TwoNear F w0 w1 w2 x h) (hu : ∀ i, i ≠ F → (i = 0 → u0 = true) ∧ (i = 1 → u1 = true) ∧ (i = 2 → u2 = true)) (hs : 2 * h ≤ s) (h0 : 0 ≤ s) (h3 : s ≤ 65535) :
    vOk u0 u1 u2 w0 w1 w2 s = true ∧ x - h ≤ vLo u0 u1 u2 w0 w1 w2 s ∧ vLo u0 u1 u2 w0 w1 w2 s ≤ x + h ∧ x - h ≤ vHi u0 u1 u2 w0 w1 w2 s ∧ vHi u0 u1 u2 w0 w1 w2 s ≤ x + h := by
  have hm := med_near hw
  unfold vOk vLo vHi sel
  rcases hw with ⟨rfl, a, b, c, d⟩ | ⟨rfl, a, b, c, d⟩ | ⟨rfl, a, b, c, d⟩
  · rw [(hu 1 (by omega)).2.1 rfl, (hu 2 (by omega)).2.2 rfl]
    cases u0
    · obtain ⟨q1, q2, q3, q4⟩ := pair_near a b c d hs h0 h3
      exact ⟨q1, q2, by simp only [cond_true, cond_false]; omega, by simp only [cond_true, cond_false]; omega, q4⟩
    · exact ⟨rfl, hm.1, hm.2, hm.1, hm.2⟩
  · rw [(hu 0 (by omega)).1 rfl, (hu 2 (by omega)).2.2 rfl]
    cases u1
    · obtain ⟨q1, q2, q3, q4⟩ := pair_near a b c d hs h0 h3
      exact ⟨q1, q2, by simp only [cond_true, cond_false]; omega, by simp only [cond_true, cond_false]; omega, q4⟩
    · exact ⟨rfl, hm.1, hm.2, hm.1, hm.2⟩
  · rw [(hu 0 (by omega)).1 rfl, (hu 1 (by omega)).2.1 rfl]
    cases u2
    · obtain ⟨q1, q2, q3, q4⟩ := pair_near a b c d hs h0 h3
      exact ⟨q1, q2, by simp only [cond_true, cond_false]; omega, by simp only [cond_true, cond_false]; omega, q4⟩
    · exact ⟨rfl, hm.1, hm.2, hm.1, hm.2⟩
/-! What the channels of a life show. -/
section
variable {K A : Nat} {B : Bool} {lag : Int} {x : Nat → Int} {f T : Nat → Value} {len N k : Nat}
/-- The machine's numbers: the guard. -/
def gN (x : Nat → Int) : Nat → Int := nOf (gsL (nOf (gsL (guN x))))
theorem gN_at {j : Nat} (hj : j < 22) : gN x j = guN x j := by
  match j, hj with
  | 0, _ => rfl
  | 1, _ => rfl
  | 2, _ => rfl
  | 3, _ => rfl
  | 4, _ => rfl
  | 5, _ => rfl
  | 6, _ => rfl
  | 7, _ => rfl
  | 8, _ => rfl
  | 9, _ => rfl
  | 10, _ => rfl
  | 11, _ => rfl
  | 12, _ => rfl
  | 13, _ => rfl
  | 14, _ => rfl
  | 15, _ => rfl
  | 16, _ => rfl
  | 17, _ => rfl
  | 18, _ => rfl
  | 19, _ => rfl
  | 20, _ => rfl
  | 21, _ => rfl
  | j + 22, h => exact absurd h (by omega)
/-- The signals ahead of step k. -/
noncomputable def sgK (K A : Nat) (B : Bool) (n : Nat → Int) (lag : Int) (T : Nat → Value) (k : Nat) : List Cv := sgP K A B T (pN K A B n lag T k)
theorem sg_has (n : Nat → Int) (i : Nat) (hi : i < 3) : bOf (sgK K A B n lag T k) (6 * i) = !muB K A i := by
  unfold sgK
  match i, hi with
  | 0, _ => rfl
  | 1, _ => rfl
  | 2, _ => rfl
theorem sg_val (n : Nat → Int) (i q : Nat) (hi : i < 3) (hq : q < 5) : nOf (sgK K A B n lag T k) (6 * i + 1 + q) = bif muB K A i then 0 else bif liB K A i then trI T (k * 31) (20 + q) else IntKind.i64.wrap (trI T (k * 31) q + trI T (k * 31) (5 + (5 * i + q))) := by
  have e0 : (pN K A B n lag T k).i.toNat = k := by rw [pN_i]; rfl
  have e1 : ∀ j, trI T ((pN K A B n lag T k).i.toNat * 31) j = trI T (k * 31) j := fun j => by rw [e0]
  simp only [← e1]
  have key : ∀ (c : Bool) (y : Int), nOf [bif c then Cv.i .i64 0 true else .i .i64 y false] 0 = bif c then 0 else y := fun c y => by cases c <;> rfl
  unfold sgK
  match i, q, hi, hq with
  | 0, 0, _, _ => exact key _ _
  | 0, 1, _, _ => exact key _ _
  | 0, 2, _, _ => exact key _ _
  | 0, 3, _, _ => exact key _ _
  | 0, 4, _, _ => exact key _ _
  | 1, 0, _, _ => exact key _ _
  | 1, 1, _, _ => exact key _ _
  | 1, 2, _, _ => exact key _ _
  | 1, 3, _, _ => exact key _ _
  | 1, 4, _, _ => exact key _ _
  | 2, 0, _, _ => exact key _ _
  | 2, 1, _, _ => exact key _ _
  | 2, 2, _, _ => exact key _ _
  | 2, 3, _, _ => exact key _ _
  | 2, 4, _, _ => exact key _ _
  | 0, q + 5, _, h => exact absurd h (by omega)
  | 1, q + 5, _, h => exact absurd h (by omega)
  | 2, q + 5, _, h => exact absurd h (by omega)
  | i + 3, q, h, _ => exact absurd h (by omega)
theorem good_ch {i : Nat} (hi : i ≠ fCh K A) : muB K A i = false ∧ liB K A i = false := by
  unfold fCh at hi
  unfold muB liB
  constructor
  · cases hb : (Nat.beq K 2 && Nat.beq A i) with
    | false => rfl
    | true =>
      rw [Bool.and_eq_true] at hb
      have h1 := beq_iff'.1 hb.1; have h2 := beq_iff'.1 hb.2
      rw [if_pos (Or.inr h1)] at hi; omega
  · cases hb : (Nat.beq K 1 && Nat.beq A i) with
    | false => rfl
    | true =>
      rw [Bool.and_eq_true] at hb
      have h1 := beq_iff'.1 hb.1; have h2 := beq_iff'.1 hb.2
      rw [if_pos (Or.inl h1)] at hi; omega
/-- The true quantity; half of its spread. -/
def tvK (x : Nat → Int) (f : Nat → Value) (k q : Nat) : Int := trV (guN x) (tkI f (k * 27)) q
theorem ch_near (hx : LfOk x) (hf : ∀ j, j < len → All2 Lf.ok lsTk (elAt f 27 j)) (hN : N ≤ len) (hT : ∀ o, o < N * 31 → T o = TV x f o) (hk : k < N) (n : Nat → Int) {i q : Nat} (hi : i < 3) (hq : q < 5) (hg : i ≠ fCh K A) :
    tvK x f k q - x (12 + q) / 2 ≤ nOf (sgK K A B n lag T k) (6 * i + 1 + q) ∧ nOf (sgK K A B n lag T k) (6 * i + 1 + q) ≤ tvK x f k q + x (12 + q) / 2 := by
  have ht := tk_ok (hf k (by omega))
  obtain ⟨g1, g2⟩ := good_ch hg
  have s := gu_spread hx hq
  have er := er_in (t := tkI f (k * 27)) (j := 5 * i + q) s.1 s.2 (ht.a (6 + (5 * i + q)) (by omega))
  have tv := tv_in hx ht hq
  have e1 : trI T (k * 31) q = trV (guN x) (tkI f (k * 27)) q := by
    unfold trI
    rw [row_num hT hk (by omega) (by omega) (by omega)]
    match q, hq with
    | 0, _ => rfl
    | 1, _ => rfl
    | 2, _ => rfl
    | 3, _ => rfl
    | 4, _ => rfl
  have e2 : trI T (k * 31) (5 + (5 * i + q)) = erF (guN x) (tkI f (k * 27)) (5 * i + q) q := by
    unfold trI
    rw [row_num hT hk (by omega) (by omega) (by omega)]
    match i, q, hi, hq with
    | 0, 0, _, _ => rfl
    | 0, 1, _, _ => rfl
    | 0, 2, _, _ => rfl
    | 0, 3, _, _ => rfl
    | 0, 4, _, _ => rfl
    | 1, 0, _, _ => rfl
    | 1, 1, _, _ => rfl
    | 1, 2, _, _ => rfl
    | 1, 3, _, _ => rfl
    | 1, 4, _, _ => rfl
    | 2, 0, _, _ => rfl
    | 2, 1, _, _ => rfl
    | 2, 2, _, _ => rfl
    | 2, 3, _, _ => rfl
    | 2, 4, _, _ => rfl
    | 0, q + 5, _, h => exact absurd h (by omega)
    | 1, q + 5, _, h => exact absurd h (by omega)
    | 2, q + 5, _, h => exact absurd h (by omega)
    | i + 3, q, h, _ => exact absurd h (by omega)
  rw [sg_val n i q hi hq, g1, g2, e1, e2]
  simp only [cond_false]
  rw [w64 (by omega)]
  unfold tvK
  omega
theorem two_near (hA : A < 3) (hx : LfOk x) (hf : ∀ j, j < len → All2 Lf.ok lsTk (elAt f 27 j)) (hN : N ≤ len) (hT : ∀ o, o < N * 31 → T o = TV x f o) (hk : k < N) (n : Nat → Int) {q : Nat} (hq : q < 5) :
    TwoNear (fCh K A) (nOf (sgK K A B n lag T k) (1 + q)) (nOf (sgK K A B n lag T k) (7 + q)) (nOf (sgK K A B n lag T k) (13 + q)) (tvK x f k q) (x (12 + q) / 2) := by
  have key := fun i (hi : i < 3) (hg : i ≠ fCh K A) => ch_near (K := K) (A := A) (B := B) (lag := lag) hx hf hN hT hk n hi hq hg
  have hF : fCh K A < 3 := by unfold fCh; split <;> omega
  have k0 := key 0 (by omega); have k1 := key 1 (by omega); have k2 := key 2 (by omega)
  rw [show 6 * 0 + 1 + q = 1 + q by omega] at k0
  rw [show 6 * 1 + 1 + q = 7 + q by omega] at k1
  rw [show 6 * 2 + 1 + q = 13 + q by omega] at k2
  rcases (show fCh K A = 0 ∨ fCh K A = 1 ∨ fCh K A = 2 by omega) with h | h | h
  · exact Or.inl ⟨h, (k1 (by omega)).1, (k1 (by omega)).2, (k2 (by omega)).1, (k2 (by omega)).2⟩
  · exact Or.inr (Or.inl ⟨h, (k0 (by omega)).1, (k0 (by omega)).2, (k2 (by omega)).1, (k2 (by omega)).2⟩)
  · exact Or.inr (Or.inr ⟨h, (k0 (by omega)).1, (k0 (by omega)).2, (k1 (by omega)).1, (k1 (by omega)).2⟩)
/-- The votes of a step, if the channels that are right are not marked. -/
theorem votes_in (hA : A < 3) (hx : LfOk x) (hf : ∀ j, j < len → All2 Lf.ok lsTk (elAt f 27 j)) (hN : N ≤ len) (hT : ∀ o, o < N * 31 → T o = TV x f o) (hk : k < N) {c : Nat → Bool} (hc : ∀ i, i < 3 → i ≠ fCh K A → c i = false) {q : Nat} (hq : q < 5) :
    oQ (gN x) (bOf (sgK K A B (nOf (gsL (guN x))) lag T k)) (nOf (sgK K A B (nOf (gsL (guN x))) lag T k)) c q = true ∧
    tvK x f k q - x (12 + q) / 2 ≤ lQ (gN x) (bOf (sgK K A B (nOf (gsL (guN x))) lag T k)) (nOf (sgK K A B (nOf (gsL (guN x))) lag T k)) c q ∧ lQ (gN x) (bOf (sgK K A B (nOf (gsL (guN x))) lag T k)) (nOf (sgK K A B (nOf (gsL (guN x))) lag T k)) c q ≤ tvK x f k q + x (12 + q) / 2 ∧
    tvK x f k q - x (12 + q) / 2 ≤ hQ (gN x) (bOf (sgK K A B (nOf (gsL (guN x))) lag T k)) (nOf (sgK K A B (nOf (gsL (guN x))) lag T k)) c q ∧ hQ (gN x) (bOf (sgK K A B (nOf (gsL (guN x))) lag T k)) (nOf (sgK K A B (nOf (gsL (guN x))) lag T k)) c q ≤ tvK x f k q + x (12 + q) / 2 := by
  have s := gu_spread hx hq
  have e1 : gN x (6 + q) = x (12 + q) := by rw [gN_at (by omega), s.1]
  unfold oQ lQ hQ
  rw [e1]
  refine vote_near (F := fCh K A) (two_near hA hx hf hN hT hk _ hq) (fun i hi => ?_) (by omega) (by omega) (by omega)
  have hus : i < 3 → us (bOf (sgK K A B (nOf (gsL (guN x))) lag T k) (6 * i)) (c i) = true := fun h3 => by
    rw [sg_has _ i h3, hc i h3 hi, (good_ch hi).1]; rfl
  refine ⟨fun h => ?_, fun h => ?_, fun h => ?_⟩ <;> subst h <;> exact hus (by omega)
/-- A channel that is right is never apart. -/
theorem not_apart (hA : A < 3) (hx : LfOk x) (hf : ∀ j, j < len → All2 Lf.ok lsTk (elAt f 27 j)) (hN : N ≤ len) (hT : ∀ o, o < N * 31 → T o = TV x f o) (hk : k < N) {c : Nat → Bool} {i : Nat} (hi : i < 3) (hg : i ≠ fCh K A) :
    apP (gN x) (bOf (sgK K A B (nOf (gsL (guN x))) lag T k)) (nOf (sgK K A B (nOf (gsL (guN x))) lag T k)) c i = false := by
  unfold apP
  rw [apF_eq]
  have e0 : (bif !c i then !bOf (sgK K A B (nOf (gsL (guN x))) lag T k) (6 * i) else false) = false := by
    rw [sg_has _ i hi, (good_ch hg).1]
    cases c i <;> rfl
  have far : ∀ q, q < 5 → farV (nOf (sgK K A B (nOf (gsL (guN x))) lag T k) (6 * i + 1 + q)) (med (nOf (sgK K A B (nOf (gsL (guN x))) lag T k) (1 + q)) (nOf (sgK K A B (nOf (gsL (guN x))) lag T k) (7 + q)) (nOf (sgK K A B (nOf (gsL (guN x))) lag T k) (13 + q))) (gN x (6 + q)) = false := by
    intro q hq
    have s := gu_spread hx hq
    have e1 : gN x (6 + q) = x (12 + q) := by rw [gN_at (by omega), s.1]
    have m := med_near (two_near (K := K) (A := A) (B := B) (lag := lag) hA hx hf hN hT hk (nOf (gsL (guN x))) hq)
    have w := ch_near (K := K) (A := A) (B := B) (lag := lag) hx hf hN hT hk (nOf (gsL (guN x))) hi hq hg
    rw [e1]
    exact far_near (by omega) (by omega) (by omega) (by omega)
  have e2 : (farL (nOf (sgK K A B (nOf (gsL (guN x))) lag T k)) (gN x) (6 * i + 1)).any id = false := by
    unfold farL
    simp only [List.any_cons, List.any_nil, id, Bool.or_false]
    have f0 := far 0 (by omega); have f1 := far 1 (by omega); have f2 := far 2 (by omega); have f3 := far 3 (by omega); have f4 := far 4 (by omega)
    simp only [Nat.add_zero] at f0
    simp only [Nat.add_zero]
    rw [f0]
    rw [show farV (nOf (sgK K A B (nOf (gsL (guN x))) lag T k) (6 * i + 1 + 1)) _ _ = false from f1, show farV (nOf (sgK K A B (nOf (gsL (guN x))) lag T k) (6 * i + 1 + 2)) _ _ = false from f2, show farV (nOf (sgK K A B (nOf (gsL (guN x))) lag T k) (6 * i + 1 + 3)) _ _ = false from f3, show farV (nOf (sgK K A B (nOf (gsL (guN x))) lag T k) (6 * i + 1 + 4)) _ _ = false from f4]
    rfl
  rw [e0, e2, Bool.and_false, Bool.false_or]
end
end Go.Proofs.Ytgiinciclnekjaa

/-
  A machine that reckons with the channels of a life, under one fault: marks, counters, causes.
-/
set_option linter.unusedSimpArgs false
set_option linter.unusedVariables false
namespace Go.Proofs.Ytgiinciclnekjaa
open Sx Go.RowKit
section
variable (n : Nat → Int) (b : Nat → Bool) (m : Nat → Int) (h : Nat → Bool) (s : Nat → Int)
/-- The counters behind a step. -/
def heX (p : Int) (c : Nat) : Int := pick6 p fun k => bif decide (k = 4) then hl4 n b m h s c else hlN n b m h s c
theorem seven_at {T : Tree FLeaf} {x0 x1 x2 x3 x4 x5 x6 : Int} (h : seven T = (x0, x1, x2, x3, x4, x5, x6)) {c : Nat} (hc : c < 7) {g : Nat → Int} (hg : [x0, x1, x2, x3, x4, x5, x6] = (List.range 7).map g) : nOf (stC T) (5 + c) = g c := by
  unfold seven at h
  simp only [Prod.mk.injEq] at h
  obtain ⟨h0, h1, h2, h3, h4, h5, h6⟩ := h
  have e : (List.range 7).map g = [g 0, g 1, g 2, g 3, g 4, g 5, g 6] := rfl
  rw [e] at hg
  simp only [List.cons.injEq, and_true] at hg
  obtain ⟨k0, k1, k2, k3, k4, k5, k6⟩ := hg
  match c, hc with
  | 0, _ => exact h0.trans k0
  | 1, _ => exact h1.trans k1
  | 2, _ => exact h2.trans k2
  | 3, _ => exact h3.trans k3
  | 4, _ => exact h4.trans k4
  | 5, _ => exact h5.trans k5
  | 6, _ => exact h6.trans k6
theorem nwI_held {p : Int} (hp : 0 ≤ p ∧ p < 6) (hE : eS s = false) {c : Nat} (hc : c < 7) : nwI (5 + c) p n b m h s = heX n b m h s p c := by
  have e0 : heX n b m h s 0 = hlN n b m h s := by funext c; unfold heX; exact pk0 _
  have e1 : heX n b m h s 1 = hlN n b m h s := by funext c; unfold heX; exact pk1 _
  have e2 : heX n b m h s 2 = hlN n b m h s := by funext c; unfold heX; exact pk2 _
  have e3 : heX n b m h s 3 = hlN n b m h s := by funext c; unfold heX; exact pk3 _
  have e4 : heX n b m h s 4 = hl4 n b m h s := by funext c; unfold heX; exact pk4 _
  have e5 : heX n b m h s 5 = hlN n b m h s := by funext c; unfold heX; exact pk5 _
  unfold nwI
  rcases six hp with rfl | rfl | rfl | rfl | rfl | rfl
  · rw [pk0, e0]; exact seven_at (seven0 n b m h s) hc (by rw [hE]; rfl)
  · rw [pk1, e1]; exact seven_at (seven1 n b m h s) hc (by rw [hE]; rfl)
  · rw [pk2, e2]; exact seven_at (seven2 n b m h s) hc (by rw [hE]; rfl)
  · rw [pk3, e3]; exact seven_at (seven3 n b m h s) hc (by rw [hE]; rfl)
  · rw [pk4, e4]; exact seven_at (seven4 n b m h s) hc (by rw [hE]; rfl)
  · rw [pk5, e5]; exact seven_at (seven5 n b m h s) hc (by rw [hE]; rfl)
theorem heX_or {p : Int} (hp : 0 ≤ p ∧ p < 6) (c : Nat) : heX n b m h s p c = hlN n b m h s c ∨ heX n b m h s p c = 0 := by
  unfold heX
  rcases six hp with rfl | rfl | rfl | rfl | rfl | rfl
  · left; exact pk0 _
  · left; exact pk1 _
  · left; exact pk2 _
  · left; exact pk3 _
  · rw [pk4]
    show hl4 n b m h s c = _ ∨ hl4 n b m h s c = _
    unfold hl4
    cases fiB n b m h s with
    | true => left; rfl
    | false => cases rsB n b m h s with
      | true => right; rfl
      | false => left; rfl
  · left; exact pk5 _
theorem heX_ne {p : Int} (hp : 0 ≤ p ∧ p < 6) (hr : rsB n b m h s = false) (c : Nat) : heX n b m h s p c = hlN n b m h s c := by
  unfold heX
  rcases six hp with rfl | rfl | rfl | rfl | rfl | rfl
  · exact pk0 _
  · exact pk1 _
  · exact pk2 _
  · exact pk3 _
  · rw [pk4]
    show hl4 n b m h s c = _
    unfold hl4
    rw [hr]
    cases fiB n b m h s <;> rfl
  · exact pk5 _
/-- While a condition holds nothing is reset. -/
theorem rsB_now {c : Nat} (hc : c < 7) (hn : nowB n b h s c = true) : rsB n b m h s = false := by
  have hno : noB n b h s = false := by
    unfold noB
    match c, hc with
    | 0, _ => rw [hn]; rfl
    | 1, _ => rw [hn]; simp
    | 2, _ => rw [hn]; simp
    | 3, _ => rw [hn]; simp
    | 4, _ => rw [hn]; simp
    | 5, _ => rw [hn]; simp
    | 6, _ => rw [hn]; simp
  unfold rsB
  rw [hno]
  cases h 30 <;> rfl
theorem cA_step {i : Nat} (h0 : cA n b m h s i ≠ 0 ∨ hlN n b m h s i ≥ n (11 + i)) : cA n b m h s (i + 1) ≠ 0 := by
  show (bif decide (hlN n b m h s i ≥ n (11 + i)) then (bif cA n b m h s i == 0 then ((i + 1 : Nat) : Int) else cA n b m h s i) else cA n b m h s i) ≠ 0
  by_cases hz : cA n b m h s i = 0
  · have h1 : hlN n b m h s i ≥ n (11 + i) := h0.resolve_left (fun h => h hz)
    rw [decide_eq_true h1, hz]
    show ((i + 1 : Nat) : Int) ≠ 0
    omega
  · have e : (cA n b m h s i == 0) = false := by simpa using hz
    rw [e]
    cases decide (hlN n b m h s i ≥ n (11 + i)) <;> exact hz
theorem cA_up {i : Nat} (h0 : cA n b m h s i ≠ 0) : ∀ j, cA n b m h s (i + j) ≠ 0
  | 0 => h0
  | j + 1 => cA_step n b m h s (i := i + j) (Or.inl (cA_up h0 j))
/-- A condition that has held for long enough: there is a cause. -/
theorem cW_held {c : Nat} (hc : c < 7) (hh : hlN n b m h s c ≥ n (11 + c)) : cW n b m h s ≠ 0 := by
  have h7 : cA n b m h s 7 ≠ 0 := by
    have := cA_up n b m h s (cA_step n b m h s (Or.inr hh)) (7 - (c + 1))
    rwa [show c + 1 + (7 - (c + 1)) = 7 by omega] at this
  have e7 : (cA n b m h s 7 == 0) = false := by simpa using h7
  have hC : cC n b m h s ≠ 0 := by
    unfold cC
    rw [e7]
    cases decide (cn3 h 18 ≥ 2) <;> exact h7
  have eC : (cC n b m h s == 0) = false := by simpa using hC
  unfold cW
  rw [eC]
  cases decide (cn3 h 21 ≥ 2) <;> exact hC
theorem held_cause {p : Int} (hp : 0 ≤ p ∧ p < 6) (hE : eS s = false) {c : Nat} (hc : c < 7) (hn : nowB n b h s c = true) (hh : hlN n b m h s c ≥ n (11 + c)) : nwI 1 p n b m h s ≠ 0 := by
  rw [nwI1 n b m h s hp hE]
  exact caX_ne n b m h s hp (cW_held n b m h s hc hh) (rsB_now n b m h s hc hn)
end
/-! Beyond a limit. -/
def bey (t : Nat → Int) (c : Nat) : Prop := if c = 2 then 0 < t 2 ∧ t 3 ≤ 0 else 0 < t c
section
variable {K A : Nat} {B : Bool} {lag : Int} {x : Nat → Int} {f T : Nat → Value} {len N k : Nat}
theorem tv_bey (hx : LfOk x) {t : Nat → Int} (ht : TkOk t) {c : Nat} (hc : c < 6) (hb : bey t c) :
    (c = 0 → trV (guN x) t 0 - x 12 / 2 > 4200000) ∧ (c = 1 → trV (guN x) t 1 + x 13 / 2 < 2800000) ∧ (c = 2 → trV (guN x) t 2 - x 14 / 2 > 100000) ∧ (c = 3 → trV (guN x) t 2 + x 14 / 2 < -50000) ∧ (c = 4 → trV (guN x) t 3 - x 15 / 2 > 330000) ∧ (c = 5 → trV (guN x) t 4 + x 16 / 2 < 100000) := by
  have hs := fun q (h : q < 5) => gu_spread hx h
  have hh := fun q (h : q < 5) => ha_eq (hs q h).1 (hs q h).2
  have w : ∀ j, j < 21 → IntKind.i64.wrap (t j) = t j := fun j hj => w64 (by have := ht.a j hj; omega)
  have s0 := (hs 0 (by omega)).2; have s1 := (hs 1 (by omega)).2; have s2 := (hs 2 (by omega)).2; have s3 := (hs 3 (by omega)).2; have s4 := (hs 4 (by omega)).2
  have e0 : x (12 + 0) = x 12 := rfl; have e1 : x (12 + 1) = x 13 := rfl; have e2 : x (12 + 2) = x 14 := rfl; have e3 : x (12 + 3) = x 15 := rfl; have e4 : x (12 + 4) = x 16 := rfl
  have a0 := ht.a 0 (by omega); have a1 := ht.a 1 (by omega); have a2 := ht.a 2 (by omega); have a3 := ht.a 3 (by omega); have a4 := ht.a 4 (by omega); have a5 := ht.a 5 (by omega)
  refine ⟨fun e => ?_, fun e => ?_, fun e => ?_, fun e => ?_, fun e => ?_, fun e => ?_⟩ <;> subst e <;> unfold bey at hb
  · rw [if_neg (by omega)] at hb
    show valF 4200000 _ _ 1 - _ > _
    rw [w 0 (by omega), (hh 0 (by omega)).1, val_pos (by omega) (by omega) (by omega), if_pos hb]
    omega
  · rw [if_neg (by omega)] at hb
    show valF 2800000 _ _ (-1) + _ < _
    rw [w 1 (by omega), (hh 1 (by omega)).1, val_neg (by omega) (by omega) (by omega), if_pos hb]
    omega
  · rw [if_pos rfl] at hb
    show (bif decide (t 3 > 0) then valF (IntKind.i64.wrap (0 - 50000)) _ _ (-1) else valF 100000 _ _ 1) - _ > _
    rw [decide_eq_false (show ¬ t 3 > 0 by omega), cond_false, w 2 (by omega), (hh 2 (by omega)).1, val_pos (by omega) (by omega) (by omega), if_pos hb.1]
    omega
  · rw [if_neg (by omega)] at hb
    show (bif decide (t 3 > 0) then valF (IntKind.i64.wrap (0 - 50000)) _ _ (-1) else valF 100000 _ _ 1) + _ < _
    rw [decide_eq_true (show t 3 > 0 from hb), cond_true, w 3 (by omega), (hh 2 (by omega)).1, w64 (y := 0 - 50000) (by omega), val_neg (by omega) (by omega) (by omega), if_pos hb]
    omega
  · rw [if_neg (by omega)] at hb
    show valF 330000 _ _ 1 - _ > _
    rw [w 4 (by omega), (hh 3 (by omega)).1, val_pos (by omega) (by omega) (by omega), if_pos hb]
    omega
  · rw [if_neg (by omega)] at hb
    show valF 100000 _ _ (-1) + _ < _
    rw [w 5 (by omega), (hh 4 (by omega)).1, val_neg (by omega) (by omega) (by omega), if_pos hb]
    omega
/-- The machine's truth values and numbers ahead of step k. -/
noncomputable def cB (K A : Nat) (B : Bool) (x : Nat → Int) (lag : Int) (T : Nat → Value) (k : Nat) : Nat → Bool := bOf (pN K A B (nOf (gsL (guN x))) lag T k).cs
noncomputable def cI (K A : Nat) (B : Bool) (x : Nat → Int) (lag : Int) (T : Nat → Value) (k : Nat) : Nat → Int := nOf (pN K A B (nOf (gsL (guN x))) lag T k).cs
noncomputable def hB (K A : Nat) (B : Bool) (x : Nat → Int) (lag : Int) (T : Nat → Value) (k : Nat) : Nat → Bool := bOf (sgK K A B (nOf (gsL (guN x))) lag T k)
noncomputable def hI (K A : Nat) (B : Bool) (x : Nat → Int) (lag : Int) (T : Nat → Value) (k : Nat) : Nat → Int := nOf (sgK K A B (nOf (gsL (guN x))) lag T k)
/-- A quantity that is beyond its limit: the condition holds. -/
theorem now_bey (hA : A < 3) (hx : LfOk x) (hf : ∀ j, j < len → All2 Lf.ok lsTk (elAt f 27 j)) (hN : N ≤ len) (hT : ∀ o, o < N * 31 → T o = TV x f o) (hk : k < N) (hc : ∀ i, i < 3 → i ≠ fCh K A → cB K A B x lag T k (1 + i) = false) {c : Nat} (h6 : c < 6) (hb : bey (tkI f (k * 27)) c) :
    nowB (gN x) (cB K A B x lag T k) (hB K A B x lag T k) (hI K A B x lag T k) c = true := by
  have tv := tv_bey hx (tk_ok (hf k (by omega))) h6 hb
  have vt := fun q (hq : q < 5) => votes_in (K := K) (A := A) (B := B) (lag := lag) hA hx hf hN hT hk (c := fun i => cB K A B x lag T k (1 + i)) hc hq
  have g3 : IntKind.i64.wrap (0 - gN x 3) = -50000 := by rw [gN_at (by omega)]; rfl
  unfold nowB hoR ho6
  unfold tvK at vt
  match c, h6 with
  | 0, _ =>
    obtain ⟨v1, v2, v3, v4, v5⟩ := vt 0 (by omega)
    show (bif oQ _ _ _ _ 0 then decide (hQ _ _ _ _ 0 > gN x 0) else false) = true
    have h := tv.1 rfl
    rw [show oQ (gN x) (hB K A B x lag T k) (hI K A B x lag T k) (fun i => cB K A B x lag T k (1 + i)) 0 = true from v1, cond_true, gN_at (by omega)]
    refine decide_eq_true (Int.lt_of_lt_of_le ?_ v4)
    show (4200000 : Int) < _
    simp only [Nat.add_zero]; omega
  | 1, _ =>
    obtain ⟨v1, v2, v3, v4, v5⟩ := vt 1 (by omega)
    show (bif oQ _ _ _ _ 1 then decide (lQ _ _ _ _ 1 < gN x 1) else false) = true
    have h := tv.2.1 rfl
    rw [show oQ (gN x) (hB K A B x lag T k) (hI K A B x lag T k) (fun i => cB K A B x lag T k (1 + i)) 1 = true from v1, cond_true, gN_at (by omega)]
    refine decide_eq_true (Int.lt_of_le_of_lt v3 ?_)
    show _ < (2800000 : Int)
    simp only [Nat.reduceAdd]; omega
  | 2, _ =>
    obtain ⟨v1, v2, v3, v4, v5⟩ := vt 2 (by omega)
    show (bif oQ _ _ _ _ 2 then decide (hQ _ _ _ _ 2 > gN x 2) else false) = true
    have h := tv.2.2.1 rfl
    rw [show oQ (gN x) (hB K A B x lag T k) (hI K A B x lag T k) (fun i => cB K A B x lag T k (1 + i)) 2 = true from v1, cond_true, gN_at (by omega)]
    refine decide_eq_true (Int.lt_of_lt_of_le ?_ v4)
    show (100000 : Int) < _
    simp only [Nat.reduceAdd]; omega
  | 3, _ =>
    obtain ⟨v1, v2, v3, v4, v5⟩ := vt 2 (by omega)
    show (bif oQ _ _ _ _ 2 then decide (lQ _ _ _ _ 2 < IntKind.i64.wrap (0 - gN x 3)) else false) = true
    have h := tv.2.2.2.1 rfl
    rw [show oQ (gN x) (hB K A B x lag T k) (hI K A B x lag T k) (fun i => cB K A B x lag T k (1 + i)) 2 = true from v1, cond_true, g3]
    refine decide_eq_true (Int.lt_of_le_of_lt v3 ?_)
    simp only [Nat.reduceAdd]; omega
  | 4, _ =>
    obtain ⟨v1, v2, v3, v4, v5⟩ := vt 3 (by omega)
    show (bif oQ _ _ _ _ 3 then decide (hQ _ _ _ _ 3 > gN x 4) else false) = true
    have h := tv.2.2.2.2.1 rfl
    rw [show oQ (gN x) (hB K A B x lag T k) (hI K A B x lag T k) (fun i => cB K A B x lag T k (1 + i)) 3 = true from v1, cond_true, gN_at (by omega)]
    refine decide_eq_true (Int.lt_of_lt_of_le ?_ v4)
    show (330000 : Int) < _
    simp only [Nat.reduceAdd]; omega
  | 5, _ =>
    obtain ⟨v1, v2, v3, v4, v5⟩ := vt 4 (by omega)
    show (bif oQ _ _ _ _ 4 then decide (lQ _ _ _ _ 4 < gN x 5) else false) = true
    have h := tv.2.2.2.2.2 rfl
    rw [show oQ (gN x) (hB K A B x lag T k) (hI K A B x lag T k) (fun i => cB K A B x lag T k (1 + i)) 4 = true from v1, cond_true, gN_at (by omega)]
    refine decide_eq_true (Int.lt_of_le_of_lt v3 ?_)
    show _ < (100000 : Int)
    simp only [Nat.reduceAdd]; omega
/-- What holds ahead of step k. -/
structure MaInv (K A : Nat) (B : Bool) (x : Nat → Int) (lag : Int) (T : Nat → Value) (k : Nat) : Prop where
  marks : ∀ i, i < 3 → i ≠ fCh K A → cB K A B x lag T k (1 + i) = false
  held : ∀ c, c < 7 → 0 ≤ cI K A B x lag T k (4 + c) ∧ cI K A B x lag T k (4 + c) ≤ k
theorem cB_next (k i : Nat) (hi : i < 3) : cB K A B x lag T (k + 1) (1 + i) = nwB (2 + i) (pN K A B (nOf (gsL (guN x))) lag T k).p (gN x) (cB K A B x lag T k) (cI K A B x lag T k) (hB K A B x lag T k) (hI K A B x lag T k) := by
  match i, hi with
  | 0, _ => rfl
  | 1, _ => rfl
  | 2, _ => rfl
theorem cI_next (k c : Nat) (hc : c < 7) : cI K A B x lag T (k + 1) (4 + c) = nwI (5 + c) (pN K A B (nOf (gsL (guN x))) lag T k).p (gN x) (cB K A B x lag T k) (cI K A B x lag T k) (hB K A B x lag T k) (hI K A B x lag T k) := by
  match c, hc with
  | 0, _ => rfl
  | 1, _ => rfl
  | 2, _ => rfl
  | 3, _ => rfl
  | 4, _ => rfl
  | 5, _ => rfl
  | 6, _ => rfl
theorem eS_k (hx : LfOk x) (hf : ∀ j, j < len → All2 Lf.ok lsTk (elAt f 27 j)) (hN : N ≤ len) (hT : ∀ o, o < N * 31 → T o = TV x f o) (hk : k < N) : eS (hI K A B x lag T k) = false := by
  have := row_ok hx hf hN hT hk
  unfold truOk at this
  rw [Bool.and_eq_true] at this
  exact sg_link this.2
theorem ma_inv (hA : A < 3) (hx : LfOk x) (hf : ∀ j, j < len → All2 Lf.ok lsTk (elAt f 27 j)) (hN : N ≤ len) (h80 : N ≤ 80) (hT : ∀ o, o < N * 31 → T o = TV x f o) : ∀ k, k ≤ N → MaInv K A B x lag T k := by
  intro k
  induction k with
  | zero =>
    intro _
    refine ⟨fun i hi _ => ?_, fun c hc => ?_⟩
    · match i, hi with
      | 0, _ => rfl
      | 1, _ => rfl
      | 2, _ => rfl
    · have e : cI K A B x lag T 0 (4 + c) = 0 := by
        match c, hc with
        | 0, _ => rfl
        | 1, _ => rfl
        | 2, _ => rfl
        | 3, _ => rfl
        | 4, _ => rfl
        | 5, _ => rfl
        | 6, _ => rfl
      rw [e]; omega
  | succ k ih =>
    intro hk
    have I := ih (by omega)
    have hp := pN_p K A B (nOf (gsL (guN x))) lag T k
    have hE := eS_k (K := K) (A := A) (B := B) (lag := lag) hx hf hN hT (show k < N by omega)
    refine ⟨fun i hi hg => ?_, fun c hc => ?_⟩
    · rw [cB_next k i hi]
      have hb := bads_at (gN x) (cB K A B x lag T k) (cI K A B x lag T k) (hB K A B x lag T k) (hI K A B x lag T k) hp
      simp only [Prod.mk.injEq] at hb
      have ei : nwB (2 + i) (pN K A B (nOf (gsL (guN x))) lag T k).p (gN x) (cB K A B x lag T k) (cI K A B x lag T k) (hB K A B x lag T k) (hI K A B x lag T k) = bdN (gN x) (cB K A B x lag T k) (cI K A B x lag T k) (hB K A B x lag T k) (hI K A B x lag T k) i := by
        match i, hi with
        | 0, _ => exact hb.1
        | 1, _ => exact hb.2.1
        | 2, _ => exact hb.2.2
      have na := not_apart (K := K) (A := A) (B := B) (lag := lag) hA hx hf hN hT (show k < N by omega) (c := fun i => cB K A B x lag T k (1 + i)) hi hg
      have d := gu_deb hx (i := 6) (by omega)
      rw [ei]
      unfold bdN awN
      rw [hE, I.marks i hi hg, show apP (gN x) (hB K A B x lag T k) (hI K A B x lag T k) (fun i => cB K A B x lag T k (1 + i)) i = false from na]
      simp only [cond_false]
      rw [gN_at (by omega), show (17 : Nat) = 11 + 6 from rfl, d.1]
      exact decide_eq_false (by omega)
    · rw [cI_next k c hc, nwI_held _ _ _ _ _ hp hE hc]
      have I4 := I.held c hc
      have hh : 0 ≤ hlN (gN x) (cB K A B x lag T k) (cI K A B x lag T k) (hB K A B x lag T k) (hI K A B x lag T k) c ∧ hlN (gN x) (cB K A B x lag T k) (cI K A B x lag T k) (hB K A B x lag T k) (hI K A B x lag T k) c ≤ ((k + 1 : Nat) : Int) := by
        unfold hlN
        cases nowB (gN x) (cB K A B x lag T k) (hB K A B x lag T k) (hI K A B x lag T k) c with
        | false => exact ⟨Int.le_refl _, by simp only [cond_false]; omega⟩
        | true => simp only [cond_true]; rw [w64 (by omega)]; omega
      rcases heX_or (gN x) (cB K A B x lag T k) (cI K A B x lag T k) (hB K A B x lag T k) (hI K A B x lag T k) hp c with e | e
      · rw [e]; exact hh
      · rw [e]; omega
/-- A condition that has held in the last R steps has been counted. -/
theorem held_run (hA : A < 3) (hx : LfOk x) (hf : ∀ j, j < len → All2 Lf.ok lsTk (elAt f 27 j)) (hN : N ≤ len) (h80 : N ≤ 80) (hT : ∀ o, o < N * 31 → T o = TV x f o) {c : Nat} (h6 : c < 6) : ∀ k, k < N → ∀ R, R ≤ k + 1 → 0 < R → (∀ r, k + 1 - R ≤ r → r ≤ k → bey (tkI f (r * 27)) c) →
    (R : Int) ≤ hlN (gN x) (cB K A B x lag T k) (cI K A B x lag T k) (hB K A B x lag T k) (hI K A B x lag T k) c := by
  intro k
  induction k with
  | zero =>
    intro hk R hR h0 hb
    have I := ma_inv (K := K) (A := A) (B := B) (lag := lag) hA hx hf hN h80 hT 0 (by omega)
    have hn := now_bey (K := K) (A := A) (B := B) (lag := lag) hA hx hf hN hT hk I.marks h6 (hb 0 (by omega) (by omega))
    have I4 := I.held c (by omega)
    unfold hlN
    rw [hn, cond_true, w64 (by omega)]
    omega
  | succ k ih =>
    intro hk R hR h0 hb
    have I := ma_inv (K := K) (A := A) (B := B) (lag := lag) hA hx hf hN h80 hT (k + 1) (by omega)
    have hn := now_bey (K := K) (A := A) (B := B) (lag := lag) hA hx hf hN hT hk I.marks h6 (hb (k + 1) (by omega) (by omega))
    have I4 := I.held c (by omega)
    unfold hlN
    rw [hn, cond_true, w64 (by omega)]
    by_cases h1 : R = 1
    · omega
    · have p := ih (by omega) (R - 1) (by omega) (by omega) (fun r h1 h2 => hb r (by omega) (by omega))
      have Ik := ma_inv (K := K) (A := A) (B := B) (lag := lag) hA hx hf hN h80 hT k (by omega)
      have hnk := now_bey (K := K) (A := A) (B := B) (lag := lag) hA hx hf hN hT (show k < N by omega) Ik.marks h6 (hb k (by omega) (by omega))
      have e : cI K A B x lag T (k + 1) (4 + c) = hlN (gN x) (cB K A B x lag T k) (cI K A B x lag T k) (hB K A B x lag T k) (hI K A B x lag T k) c := by
        rw [cI_next k c (by omega), nwI_held _ _ _ _ _ (pN_p K A B (nOf (gsL (guN x))) lag T k) (eS_k hx hf hN hT (show k < N by omega)) (by omega)]
        exact heX_ne _ _ _ _ _ (pN_p K A B (nOf (gsL (guN x))) lag T k) (rsB_now _ _ _ _ _ (show c < 7 by omega) hnk) c
      rw [e]
      omega
/-- Beyond for long enough: nothing is driven. -/
theorem react_off (hA : A < 3) (hx : LfOk x) (hf : ∀ j, j < len → All2 Lf.ok lsTk (elAt f 27 j)) (hN : N ≤ len) (h80 : N ≤ 80) (hT : ∀ o, o < N * 31 → T o = TV x f o) {c : Nat} (h6 : c < 6) (hk : k < N) {R : Nat} (hR : R ≤ k + 1) (hd : guN x (11 + c) ≤ R) (hb : ∀ r, k + 1 - R ≤ r → r ≤ k → bey (tkI f (r * 27)) c) :
    ∀ j, j < 3 → drv K A B (nOf (gsL (guN x))) lag T k j = false := by
  have d := gu_deb hx (i := c) (by omega)
  have h0 : 0 < R := by omega
  have I := ma_inv (K := K) (A := A) (B := B) (lag := lag) hA hx hf hN h80 hT k (by omega)
  have hn := now_bey (K := K) (A := A) (B := B) (lag := lag) hA hx hf hN hT hk I.marks h6 (hb k (by omega) (by omega))
  have hh := held_run (K := K) (A := A) (B := B) (lag := lag) hA hx hf hN h80 hT h6 k hk R hR h0 hb
  have hpos : posB (trI T (k * 31)) = true := by
    have := row_ok hx hf hN hT hk
    unfold truOk at this
    rw [Bool.and_eq_true] at this
    exact this.2
  refine cause_off hpos ?_
  show nwI 1 (pN K A B (nOf (gsL (guN x))) lag T k).p (gN x) (cB K A B x lag T k) (cI K A B x lag T k) (hB K A B x lag T k) (hI K A B x lag T k) ≠ 0
  refine held_cause _ _ _ _ _ (pN_p K A B (nOf (gsL (guN x))) lag T k) (eS_k hx hf hN hT hk) (show c < 7 by omega) hn ?_
  rw [gN_at (by omega)]
  omega
end
end Go.Proofs.Ytgiinciclnekjaa

/-
  A machine that has no reason to trip: phases, and what the contactors do.
-/
set_option linter.unusedSimpArgs false
set_option linter.unusedVariables false
namespace Go.Proofs.Ytgiinciclnekjaa
open Sx Go.RowKit
section
variable (n : Nat → Int) (b : Nat → Bool) (m : Nat → Int) (h : Nat → Bool) (s : Nat → Int)
theorem cA_zero (hn : ∀ i, i < 7 → nowB n b h s i = false) (hd : ∀ i, i < 7 → 1 ≤ n (11 + i)) (h0 : m 0 = 0) : ∀ i, i ≤ 7 → cA n b m h s i = 0
  | 0, _ => h0
  | i + 1, hi => by
    show (bif decide (hlN n b m h s i ≥ n (11 + i)) then (bif cA n b m h s i == 0 then ((i + 1 : Nat) : Int) else cA n b m h s i) else cA n b m h s i) = 0
    have e : hlN n b m h s i = 0 := by unfold hlN; rw [hn i (by omega)]; rfl
    have d := hd i (by omega)
    rw [e, decide_eq_false (by omega)]
    exact cA_zero hn hd h0 i (by omega)
theorem cW_zero (hn : ∀ i, i < 7 → nowB n b h s i = false) (hd : ∀ i, i < 7 → 1 ≤ n (11 + i)) (h0 : m 0 = 0) (h1 : cn3 h 18 < 2) (h2 : cn3 h 21 < 2) : cW n b m h s = 0 := by
  unfold cW cC
  rw [decide_eq_false (show ¬ cn3 h 18 ≥ 2 by omega), decide_eq_false (show ¬ cn3 h 21 ≥ 2 by omega)]
  exact cA_zero n b m h s hn hd h0 7 (by omega)
theorem four_3 {T : Tree FLeaf} {x : Int × Int × Int × Int} (h : four T = x) : nOf (stC T) 15 = x.2.2.1 := by subst h; rfl
theorem four_4 {T : Tree FLeaf} {x : Int × Int × Int × Int} (h : four T = x) : nOf (stC T) 16 = x.2.2.2 := by subst h; rfl
theorem calm0 (hE : eS s = false) (hW : cW n b m h s = 0) (hc : clB h = false) : nwI 0 0 n b m h s = (bif h 29 then 1 else 0) ∧ nwI 1 0 n b m h s = 0 := by
  have e2 : (cW n b m h s != 0) = false := by rw [hW]; rfl
  have ew : wcB h = false := by unfold wcB; rw [hc]; cases h 29 <;> rfl
  unfold nwI
  rw [pk0, pk0]
  refine ⟨(four_1 (four0 n b m h s)).trans ?_, (four_2 (four0 n b m h s)).trans ?_⟩
  · rw [hE]; show ph0 n b m h s = _; unfold ph0; rw [e2, ew]; rfl
  · rw [hE]; show ca0 n b m h s = _; unfold ca0; rw [e2, ew]; exact hW
theorem calm1 (hE : eS s = false) (hW : cW n b m h s = 0) (hl : lkB n s = true) : nwI 0 1 n b m h s = (bif h 29 then 2 else 3) ∧ nwI 1 1 n b m h s = 0 ∧ (h 29 = true → nwI 15 1 n b m h s = 0) ∧ (h 29 = false → nwI 16 1 n b m h s = 0) := by
  have e2 : (cW n b m h s != 0) = false := by rw [hW]; rfl
  have et : t1B n b m h s = !h 29 := by unfold t1B; rw [e2]; rfl
  unfold nwI
  rw [pk1, pk1, pk1, pk1]
  refine ⟨(four_1 (four1 n b m h s)).trans ?_, (four_2 (four1 n b m h s)).trans ?_, fun hw => (four_3 (four1 n b m h s)).trans ?_, fun hw => (four_4 (four1 n b m h s)).trans ?_⟩
  · rw [hE]; show ph1 n b m h s = _; unfold ph1; rw [et, hl]; cases h 29 <;> rfl
  · rw [hE]; show ca1 n b m h s = _; unfold ca1; rw [et, hl, hW]; cases h 29 <;> rfl
  · rw [hE]; show mi1 n b m h s = _; unfold mi1; rw [et, hl, hw]; rfl
  · rw [hE]; show ti1 n b m h s = _; unfold ti1; rw [et, hw]; rfl
theorem calm2 (hE : eS s = false) (hW : cW n b m h s = 0) (hm : mi2 m h ≤ n 20) : nwI 0 2 n b m h s = (bif h 29 then 2 else 3) ∧ nwI 1 2 n b m h s = 0 ∧ nwI 15 2 n b m h s = mi2 m h ∧ (h 29 = false → nwI 16 2 n b m h s = 0) := by
  have ec : ca2 n b m h s = 0 := by unfold ca2; rw [decide_eq_false (show ¬ mi2 m h > n 20 by omega)]; exact hW
  have et : t2B n b m h s = !h 29 := by unfold t2B; rw [ec]; rfl
  unfold nwI
  rw [pk2, pk2, pk2, pk2]
  refine ⟨(four_1 (four2 n b m h s)).trans ?_, (four_2 (four2 n b m h s)).trans ?_, (four_3 (four2 n b m h s)).trans ?_, fun hw => (four_4 (four2 n b m h s)).trans ?_⟩
  · rw [hE]; show ph2 n b m h s = _; unfold ph2; rw [et]; cases h 29 <;> rfl
  · rw [hE]; show ca2 n b m h s = _; exact ec
  · rw [hE]; rfl
  · rw [hE]; show ti2 n b m h s = _; unfold ti2; rw [et, hw]; rfl
theorem calm3 (hE : eS s = false) (hW : cW n b m h s = 0) : nwI 1 3 n b m h s = (bif loB n m then 0 else bif ccB n b h s then 0 else bif clB h then 11 else 0) ∧ (loB n m = true → nwI 0 3 n b m h s = 3 ∧ nwI 16 3 n b m h s = IntKind.i64.wrap (m 15 + 1)) ∧ (loB n m = false → clB h = false → nwI 0 3 n b m h s = 0) := by
  unfold nwI
  rw [pk3, pk3, pk3]
  refine ⟨(four_2 (four3 n b m h s)).trans ?_, fun hl => ⟨(four_1 (four3 n b m h s)).trans ?_, (four_4 (four3 n b m h s)).trans ?_⟩, fun hl hc => (four_1 (four3 n b m h s)).trans ?_⟩
  · rw [hE]; show cs3 n b m h s = _; unfold cs3 ca3; rw [hW]; rfl
  · rw [hE]; show ph3 n b m h s = _; unfold ph3; rw [hl]; rfl
  · rw [hE]; show ti3 n b m h s = _; unfold ti3; rw [hl]; rfl
  · rw [hE]
    show ph3 n b m h s = _
    unfold ph3 ccB ca3
    rw [hl, hc, hW]; rfl
/-- What is driven: by the phase behind the step. -/
theorem acts_ph {p : Int} (hp : 0 ≤ p ∧ p < 6) (hE : eS s = false) : acB 0 p n b m h s = dr0 (nwI 0 p n b m h s) ∧ acB 1 p n b m h s = dr1 (nwI 0 p n b m h s) ∧ acB 2 p n b m h s = dr2 (nwI 0 p n b m h s) ∧ acB 3 p n b m h s = (nwI 0 p n b m h s == 5) := by
  have h1 := acts_at n b m h s hp
  have e : nwI 0 p n b m h s = phX n b m h s p := by rw [nwI0 n b m h s hp]; unfold phN; rw [hE]; rfl
  unfold actX at h1
  rw [hE] at h1
  simp only [Prod.mk.injEq, cond_false] at h1
  rw [e]
  exact h1
end
theorem clB_no {h : Nat → Bool} (hh : ∀ i, i < 3 → h (24 + i) = false) : clB h = false := by
  unfold clB
  rw [show h 24 = false from hh 0 (by omega), show h 25 = false from hh 1 (by omega), show h 26 = false from hh 2 (by omega)]; rfl
theorem cn3_one {h : Nat → Bool} {o : Nat} (h1 : h o = false ∨ h (o + 1) = false) (h2 : h o = false ∨ h (o + 2) = false) (h3 : h (o + 1) = false ∨ h (o + 2) = false) : cn3 h o < 2 := by
  unfold cn3
  cases ha : h o <;> cases hb : h (o + 1) <;> cases hc : h (o + 2) <;> first | decide | (rw [ha, hb] at h1; cases h1 <;> contradiction) | (rw [ha, hc] at h2; cases h2 <;> contradiction) | (rw [hb, hc] at h3; cases h3 <;> contradiction)
/-! Within the limits. -/
section
variable {K A : Nat} {B : Bool} {lag : Int} {x : Nat → Int} {f T : Nat → Value} {len N k : Nat}
theorem tv_calm (hx : LfOk x) {t : Nat → Int} (ht : TkOk t) (hb : ∀ j, j < 6 → t j ≤ 0) :
    trV (guN x) t 0 + x 12 / 2 ≤ 4200000 ∧ 2800000 ≤ trV (guN x) t 1 - x 13 / 2 ∧ trV (guN x) t 2 + x 14 / 2 ≤ 100000 ∧ -50000 ≤ trV (guN x) t 2 - x 14 / 2 ∧ trV (guN x) t 3 + x 15 / 2 ≤ 330000 ∧ 100000 ≤ trV (guN x) t 4 - x 16 / 2 := by
  have hs := fun q (h : q < 5) => gu_spread hx h
  have hh := fun q (h : q < 5) => ha_eq (hs q h).1 (hs q h).2
  have w : ∀ j, j < 21 → IntKind.i64.wrap (t j) = t j := fun j hj => w64 (by have := ht.a j hj; omega)
  have s0 := (hs 0 (by omega)).2; have s1 := (hs 1 (by omega)).2; have s2 := (hs 2 (by omega)).2; have s3 := (hs 3 (by omega)).2; have s4 := (hs 4 (by omega)).2
  have e0 : x (12 + 0) = x 12 := rfl; have e1 : x (12 + 1) = x 13 := rfl; have e2 : x (12 + 2) = x 14 := rfl; have e3 : x (12 + 3) = x 15 := rfl; have e4 : x (12 + 4) = x 16 := rfl
  have a0 := ht.a 0 (by omega); have a1 := ht.a 1 (by omega); have a2 := ht.a 2 (by omega); have a3 := ht.a 3 (by omega); have a4 := ht.a 4 (by omega); have a5 := ht.a 5 (by omega)
  have b0 := hb 0 (by omega); have b1 := hb 1 (by omega); have b2 := hb 2 (by omega); have b3 := hb 3 (by omega); have b4 := hb 4 (by omega); have b5 := hb 5 (by omega)
  have v2 : trV (guN x) t 2 = 100000 - ((x (12 + 2) + 1) / 2 - t 2) := by
    show (bif decide (t 3 > 0) then valF (IntKind.i64.wrap (0 - 50000)) _ _ (-1) else valF 100000 _ _ 1) = _
    rw [decide_eq_false (show ¬ t 3 > 0 by omega), cond_false, w 2 (by omega), (hh 2 (by omega)).1, val_pos (by omega) (by omega) (by omega), if_neg (by omega)]
  refine ⟨?_, ?_, ?_, ?_, ?_, ?_⟩
  · show valF 4200000 _ _ 1 + _ ≤ _
    rw [w 0 (by omega), (hh 0 (by omega)).1, val_pos (by omega) (by omega) (by omega), if_neg (by omega)]
    omega
  · show _ ≤ valF 2800000 _ _ (-1) - _
    rw [w 1 (by omega), (hh 1 (by omega)).1, val_neg (by omega) (by omega) (by omega), if_neg (by omega)]
    omega
  · rw [v2]; omega
  · rw [v2]; omega
  · show valF 330000 _ _ 1 + _ ≤ _
    rw [w 4 (by omega), (hh 3 (by omega)).1, val_pos (by omega) (by omega) (by omega), if_neg (by omega)]
    omega
  · show _ ≤ valF 100000 _ _ (-1) - _
    rw [w 5 (by omega), (hh 4 (by omega)).1, val_neg (by omega) (by omega) (by omega), if_neg (by omega)]
    omega
/-- Within the limits no condition holds. -/
theorem now_calm (hA : A < 3) (hx : LfOk x) (hf : ∀ j, j < len → All2 Lf.ok lsTk (elAt f 27 j)) (hN : N ≤ len) (hT : ∀ o, o < N * 31 → T o = TV x f o) (hk : k < N) (hc : ∀ i, i < 3 → i ≠ fCh K A → cB K A B x lag T k (1 + i) = false) (hb : ∀ j, j < 6 → tkI f (k * 27) j ≤ 0) {c : Nat} (h7 : c < 7) :
    nowB (gN x) (cB K A B x lag T k) (hB K A B x lag T k) (hI K A B x lag T k) c = false := by
  have tv := tv_calm hx (tk_ok (hf k (by omega))) hb
  have vt := fun q (hq : q < 5) => votes_in (K := K) (A := A) (B := B) (lag := lag) hA hx hf hN hT hk (c := fun i => cB K A B x lag T k (1 + i)) hc hq
  have g3 : IntKind.i64.wrap (0 - gN x 3) = -50000 := by rw [gN_at (by omega)]; rfl
  have ok := fun q (hq : q < 5) => show oQ (gN x) (hB K A B x lag T k) (hI K A B x lag T k) (fun i => cB K A B x lag T k (1 + i)) q = true from (vt q hq).1
  unfold nowB hoR ho6
  unfold tvK at vt
  match c, h7 with
  | 0, _ =>
    obtain ⟨v1, v2, v3, v4, v5⟩ := vt 0 (by omega)
    show (bif oQ _ _ _ _ 0 then decide (hQ _ _ _ _ 0 > gN x 0) else false) = false
    rw [ok 0 (by omega), cond_true, gN_at (by omega)]
    refine decide_eq_false (Int.not_lt.2 (Int.le_trans v5 ?_))
    show _ ≤ (4200000 : Int)
    simp only [Nat.add_zero]; omega
  | 1, _ =>
    obtain ⟨v1, v2, v3, v4, v5⟩ := vt 1 (by omega)
    show (bif oQ _ _ _ _ 1 then decide (lQ _ _ _ _ 1 < gN x 1) else false) = false
    rw [ok 1 (by omega), cond_true, gN_at (by omega)]
    refine decide_eq_false (Int.not_lt.2 (Int.le_trans ?_ v2))
    show (2800000 : Int) ≤ _
    simp only [Nat.reduceAdd]; omega
  | 2, _ =>
    obtain ⟨v1, v2, v3, v4, v5⟩ := vt 2 (by omega)
    show (bif oQ _ _ _ _ 2 then decide (hQ _ _ _ _ 2 > gN x 2) else false) = false
    rw [ok 2 (by omega), cond_true, gN_at (by omega)]
    refine decide_eq_false (Int.not_lt.2 (Int.le_trans v5 ?_))
    show _ ≤ (100000 : Int)
    simp only [Nat.reduceAdd]; omega
  | 3, _ =>
    obtain ⟨v1, v2, v3, v4, v5⟩ := vt 2 (by omega)
    show (bif oQ _ _ _ _ 2 then decide (lQ _ _ _ _ 2 < IntKind.i64.wrap (0 - gN x 3)) else false) = false
    rw [ok 2 (by omega), cond_true, g3]
    refine decide_eq_false (Int.not_lt.2 (Int.le_trans ?_ v2))
    simp only [Nat.reduceAdd]; omega
  | 4, _ =>
    obtain ⟨v1, v2, v3, v4, v5⟩ := vt 3 (by omega)
    show (bif oQ _ _ _ _ 3 then decide (hQ _ _ _ _ 3 > gN x 4) else false) = false
    rw [ok 3 (by omega), cond_true, gN_at (by omega)]
    refine decide_eq_false (Int.not_lt.2 (Int.le_trans v5 ?_))
    show _ ≤ (330000 : Int)
    simp only [Nat.reduceAdd]; omega
  | 5, _ =>
    obtain ⟨v1, v2, v3, v4, v5⟩ := vt 4 (by omega)
    show (bif oQ _ _ _ _ 4 then decide (lQ _ _ _ _ 4 < gN x 5) else false) = false
    rw [ok 4 (by omega), cond_true, gN_at (by omega)]
    refine decide_eq_false (Int.not_lt.2 (Int.le_trans ?_ v2))
    show (100000 : Int) ≤ _
    simp only [Nat.reduceAdd]; omega
  | 6, _ =>
    show noR (gN x) (hB K A B x lag T k) (hI K A B x lag T k) (fun i => cB K A B x lag T k (1 + i)) = false
    unfold noR
    rw [ok 0 (by omega), ok 1 (by omega), ok 2 (by omega), ok 3 (by omega), ok 4 (by omega)]; rfl
end
/-! The ring at first; what the contactors do. -/
section
variable (K A : Nat) (B : Bool) (n : Nat → Int) (lag : Int) (f : Nat → Value)
theorem ring_zero (L : Nat) (hL : lag = L) (hL7 : L ≤ 7) : ∀ k o, o < 63 → k ≤ L + 1 → k ≤ o / 3 → rng K A B n lag f k o = false := by
  intro k
  induction k with
  | zero =>
    intro o ho _ _
    unfold rng
    show ((List.range 64).map fun _ => false).getD (1 + o) false = false
    rw [getD_range (g := fun _ => false) (by omega)]
  | succ k ih =>
    intro o ho hk hq
    rw [rng_next K A B n lag f ho, pN_place K A B n lag f L hL, Nat.mod_eq_of_lt (show k < L + 1 by omega), decide_eq_false (by omega)]
    exact ih o ho (by omega) (by omega)
theorem old_zero (L : Nat) (hL : lag = L) (hL7 : L ≤ 7) {k : Nat} (hk : k < L) {j : Nat} (hj : j < 3) : old K A B n lag f k j = false := by
  have e1 : atN lag (pN K A B n lag f k).at_ = (((k + 1) % (L + 1) : Nat) : Int) := pN_place K A B n lag f L hL (k + 1)
  unfold old
  rw [e1, pN_place K A B n lag f L hL, Nat.mod_eq_of_lt (show k + 1 < L + 1 by omega), Nat.mod_eq_of_lt (show k < L + 1 by omega)]
  show (bif decide ((((3 * (k + 1) + j) / 3 : Nat) : Int) = (k : Int)) then drv K A B n lag f k ((3 * (k + 1) + j) % 3) else rng K A B n lag f k (3 * (k + 1) + j)) = _
  rw [decide_eq_false (by omega)]
  exact ring_zero K A B n lag f L hL hL7 k _ (by omega) (by omega) (by omega)
/-- A contactor without a fault follows with the lag. -/
theorem shu_lag (L : Nat) (hL : lag = L) (hL7 : L ≤ 7) {i : Nat} (hi : i < 3) (hs : skB K A i = false) (hw : weB K A i = false) : ∀ k, shu K A B n lag f k i = true ↔ ∃ r, r + L + 1 = k ∧ drv K A B n lag f r i = true := by
  intro k
  cases k with
  | zero =>
    have e : shu K A B n lag f 0 i = false := by
      match i, hi with
      | 0, _ => rfl
      | 1, _ => rfl
      | 2, _ => rfl
    rw [e]
    exact ⟨fun h => Bool.noConfusion h, fun ⟨r, hr, _⟩ => by omega⟩
  | succ k =>
    rw [shu_next K A B n lag f ⟨by omega, by omega⟩ hi, hs, hw]
    by_cases hk : k < L
    · rw [old_zero K A B n lag f L hL hL7 hk hi]
      exact ⟨fun h => Bool.noConfusion h, fun ⟨r, hr, _⟩ => by omega⟩
    · rw [old_lag K A B n lag f L hL hL7 (by omega) hi]
      constructor
      · intro h
        refine ⟨k - L, by omega, ?_⟩
        cases hd : drv K A B n lag f (k - L) i with
        | true => rfl
        | false => rw [hd] at h; cases h
      · rintro ⟨r, hr, hd⟩
        rw [show k - L = r by omega, hd]; rfl
theorem fir_zero (hd : ∀ r, drv K A B n lag f r 3 = false) : ∀ k, fir K A B n lag f k = false := by
  intro k
  induction k with
  | zero => rfl
  | succ k ih => rw [fir_next, ih, hd k]; rfl
end
end Go.Proofs.Ytgiinciclnekjaa

/-
  The law ProtectWelds: its loops.
-/
set_option linter.unusedSimpArgs false
set_option linter.unusedVariables false
namespace Go.Proofs.Ytgiinciclnekjaa
open Sx Go.RowKit
set_option maxRecDepth 100000
section
variable (p m : Bool) (x : Nat → Int)
noncomputable def wdF : Func := fnOf 13
/-- The arguments: plus, minus; lag, open, before, after, current. -/
def wdA : List Sv := [.one (.b p true), .one (.b m true), .one (.i .u8 (x 0) false), .one (.i .u8 (x 1) false), .one (.i .u8 (x 2) false), .one (.i .u8 (x 3) false), .one (.i .i32 (x 4) false)]
noncomputable def wdE : St := enterSt (withVr st0 (evVr wr5 13 300 wdF)) (wdA p m x)
noncomputable def wdT : Tree SLeaf := evS tbl wr5 caC wdF.ntmps 300 [0, 2] 300 [.code (cdOf 13)] .normal (wdE p m x)
noncomputable def wdS : Stp := (((selW [] (wdT p m x)).map (·.2)).bind stpOf).getD stp0
def wdD1 : List FamP := [.t 20 (.i .i64)]
def wdD : List FamP := wdD1 ++ [.row 19 83 31 100 100]
noncomputable def wdI1 (v : FVal) : St := ((wdS p m x).st.apps (famW v 0 wdD1)).getD st0
noncomputable def wdI (v : FVal) : St := ((wdS p m x).st.apps (famW v 0 wdD)).getD st0
noncomputable def wdK : List Kt := (wdS p m x).rest
noncomputable def wdR1 (v : FVal) : Tree Leaf := evC tbl wr5 caC wdF.ntmps [] 300 (wdS p m x).body (wdI1 p m x v)
noncomputable def wdR (v : FVal) : Tree Leaf := evC tbl wr5 caC wdF.ntmps [] 300 (wdS p m x).body (wdI p m x v)
noncomputable def wdT2 (v : FVal) : Tree SLeaf := evS tbl wr5 caC wdF.ntmps 300 [0, 2] 300 (wdK p m x) .normal (wdI p m x v)
noncomputable def wdS2 (v : FVal) : Stp := (((selW [false, false] (wdT2 p m x v)).map (·.2)).bind stpOf).getD stp0
def wdD2 : List FamP := [.t 26 (.i .i64)]
noncomputable def wdI2 (v u : FVal) : St := ((wdS2 p m x v).st.apps (famW u 0 wdD2)).getD st0
noncomputable def wdK2 (v : FVal) : List Kt := (wdS2 p m x v).rest
noncomputable def wdR2 (v u : FVal) : Tree Leaf := evC tbl wr5 caC wdF.ntmps [] 300 (wdS2 p m x v).body (wdI2 p m x v u)
noncomputable def wdX (v u : FVal) : Tree SLeaf := evS tbl wr5 caC wdF.ntmps 300 [0, 2] 300 (wdK2 p m x v) .normal (wdI2 p m x v u)
end
end Go.Proofs.Ytgiinciclnekjaa

/-
  The law ProtectWelds: all that is checked.
-/
set_option linter.unusedSimpArgs false
set_option linter.unusedVariables false
namespace Go.Proofs.Ytgiinciclnekjaa
open Sx Go.RowKit
set_option maxRecDepth 100000
section
variable (p m : Bool) (x : Nat → Int) (v u : FVal)
/-- For how long it is wanted; the ticks of opening; the lag; the ticks. -/
def nW : Int := IntKind.i64.wrap (IntKind.i64.wrap (3 + (IntKind.i64.wrap (x 2)).tmod 10) + (IntKind.i64.wrap (x 0)).tmod 6)
def oW : Int := IntKind.i64.wrap (1 + (IntKind.i64.wrap (x 1)).tmod 8)
def lW : Int := (IntKind.i64.wrap (x 0)).tmod (mm false 6 (oW x))
def tW : Int := IntKind.i64.wrap (IntKind.i64.wrap (IntKind.i64.wrap (nW x + oW x) + 1) + (IntKind.i64.wrap (x 3)).tmod 20)
/-- The guard's numbers. -/
def gW (j : Nat) : Int := match j with
  | 0 => 4200000
  | 1 => 2800000
  | 2 => 100000
  | 3 => 50000
  | 4 => 330000
  | 5 => 100000
  | 6 => 20000
  | 7 => 20000
  | 8 => 1000
  | 9 => 2000
  | 10 => 10000
  | 18 => 58982
  | 19 => 5
  | 20 => oW x
  | 21 => 2000
  | _ => 3
/-- The truth of tick i. -/
def wN (i : Int) (j : Nat) : Int := match j with
  | 0 => 4000000
  | 1 => 3900000
  | 2 => bif decide (i ≥ nW x) then (IntKind.i64.wrap (x 4)).tmod 100001 else 10000
  | 3 => 300000
  | 4 => 500000
  | 27 => 400000000
  | 28 => 400000000
  | _ => 0
def wB (i : Int) (j : Nat) : Bool := bif Nat.beq j 29 then decide (i < nW x) else false
def wL (i : Int) : List Value := (symL (wB x i) (wN x i) 0 lsT).map (·.den env0)
noncomputable def wdA1 := ((selW [] (wdT p m x)).map fun r => let σ := (wdS p m x).st; (r.1, (stpOf r.2).isSome, (wdS p m x).k, okF wdD1 σ σ, (σ.apps (famW v 0 wdD1)).isSome, (σ.apps (famW v 0 wdD)).isSome, rvI wdD1 σ 0),
  (wayR wdD (wdS p m x).st (wdI1 p m x v) .normal (wdR1 p m x v) [true]).map (fun r => (r.1, rvI wdD r.2 0, (rvR wdD r.2 1).map fun r => (r.n, r.m, (List.range 31).map r.f))),
  (wayR wdD (wdS p m x).st (wdI p m x v) .normal (wdR p m x v) [true]).map (fun r => (r.1, rvI wdD r.2 0, (rvR wdD r.2 1).map fun r => (r.n, r.m, r.f))),
  (wayR wdD (wdS p m x).st (wdI p m x v) (.exit 0) (wdR p m x v) [false]).map (fun r => (r.1, (rvR wdD r.2 1).map fun r => (r.n, r.m, r.f))))
noncomputable def wdA1X := ((some ([mm false 6 (oW x) != 0], true, 0, true, true, true, 0) : Option (List Bool × Bool × Nat × Bool × Bool × Bool × Int)),
  some ([decide (v.i 0 < tW x)], IntKind.i64.wrap (v.i 0 + 1), some (1, 31, wL x (v.i 0))),
  some ([decide (v.i 0 < tW x)] ++ lwC2 v, IntKind.i64.wrap (v.i 0 + 1), some (v.n 1 + 1, (v.n 1 + 1) * 31, appF (v.n 1 * 31) (v.f 1) (wL x (v.i 0)))),
  some ([!decide (v.i 0 < tW x)], some (v.n 1, v.m 1, v.f 1)))
end
section
variable (K A : Nat) (x : Nat → Int) (v u : FVal)
/-- Cell o of moment i. -/
noncomputable def mwF (i : Int) (o : Nat) : Value := pF K A false (nOf (gsL (gW x))) (lW x) (v.f 1) (0 + i.toNat * 10 + o)
def inW (i : Int) : Bool := decide (0 ≤ i ∧ i < (v.n 1 : Int))
def muW (i : Int) (o : Nat) : Bool := decide (0 + i.toNat * 10 + o < v.n 1 * 10)
noncomputable def phD (i : Int) : List Bool := [inW v i, muW v i 0, (Lf.i IntKind.i64).isV (mwF K A x v i 0)]
noncomputable def boD (i : Int) (o : Nat) : List Bool := [inW v i, muW v i o, Lf.b.isV (mwF K A x v i o)]
/-- The current behind the wish to open. -/
def cuI : Int := viOf (v.f 1 (0 + (nW x).toNat * 31 + 2))
def cuD : List Bool := [inW v (nW x), decide (0 + (nW x).toNat * 31 + 2 < v.m 1), (Lf.i IntKind.i64).isV (v.f 1 (0 + (nW x).toNat * 31 + 2))]
def flB : Bool := bif decide (cuI x v > 2000) then true else decide (cuI x v < -2000)
def nnB : Bool := (v.n 1 : Int) != (v.n 1 : Int)
noncomputable def wdU : List Bool := [true, plDem (gW x) (lW x) (v.n 1) (v.m 1), (List.range (v.n 1)).all (truOk (v.f 1))] ++ ((phD K A x v (IntKind.i64.wrap (nW x - 1))).map (fun d => nnB v || d) ++ [!(bif nnB v then true else viOf (mwF K A x v (IntKind.i64.wrap (nW x - 1)) 0) != 2)] ++ (cuD x v ++ ((cuD x v).map (fun d => decide (cuI x v > 2000) || d) ++ cuD x v)))
noncomputable def wdQ : List Bool := [decide (u.i 0 < IntKind.i64.wrap (nW x + oW x))] ++ (phD K A x v (u.i 0) ++ ((boD K A x v (u.i 0) 5).map (fun d => (viOf (mwF K A x v (u.i 0) 0) != 3) || d) ++ [!(bif viOf (mwF K A x v (u.i 0) 0) != 3 then true else vbOf (mwF K A x v (u.i 0) 5))]))
/-- Behind the second loop: fr says whether it is to be fired, op whether the path may stay. -/
noncomputable def wdV (fr op : Bool) : List Bool := boD K A x v (IntKind.i64.wrap (nW x + oW x)) 5 ++ ((phD K A x v (IntKind.i64.wrap (nW x + oW x))).map (fun d => (!(vbOf (mwF K A x v (IntKind.i64.wrap (nW x + oW x)) 5) == fr)) || d) ++ ((boD K A x v (IntKind.i64.wrap (nW x + oW x)) 9).map (fun d => (!(vbOf (mwF K A x v (IntKind.i64.wrap (nW x + oW x)) 5) == fr)) || ((!((viOf (mwF K A x v (IntKind.i64.wrap (nW x + oW x)) 0) == 5) == fr)) || d)) ++
  [!(bif !(vbOf (mwF K A x v (IntKind.i64.wrap (nW x + oW x)) 5) == fr) then true else bif !((viOf (mwF K A x v (IntKind.i64.wrap (nW x + oW x)) 0) == 5) == fr) then true else bif vbOf (mwF K A x v (IntKind.i64.wrap (nW x + oW x)) 9) then !op else false)]))
end
section
variable (p m : Bool) (x : Nat → Int) (v u : FVal)
noncomputable def wdB1 := ((selW [false, false] (wdT2 p m x v)).map fun r => let σ := (wdS2 p m x v).st; (r.1, (stpOf r.2).isSome, (wdS2 p m x v).k, okF wdD2 σ σ, (σ.apps (famW u 0 wdD2)).isSome, rvI wdD2 σ 0),
  (selW [false, true] (wdT2 p m x v)).map (fun r => (r.1, retB 13 r.2)),
  (wayR wdD2 (wdS2 p m x v).st (wdI2 p m x v u) .normal (wdR2 p m x v u) [true, false]).map (fun r => (r.1, rvI wdD2 r.2 0)),
  (wayR wdD2 (wdS2 p m x v).st (wdI2 p m x v u) (.exit 2) (wdR2 p m x v u) [false]).map (fun r => r.1),
  (selW [false] (wdX p m x v u)).map (fun r => (r.1, retB 13 r.2)))
noncomputable def wdB1X (K A : Nat) (fr op : Bool) := (some (wdU K A x v ++ [!decide (cuI x v < -50000)], true, 2, true, true, nW x),
  some (wdU K A x v ++ [decide (cuI x v < -50000)], some true),
  some (wdQ K A x v u, IntKind.i64.wrap (u.i 0 + 1)),
  some [!decide (u.i 0 < IntKind.i64.wrap (nW x + oW x))],
  some (wdV K A x v fr op, some true))
theorem wd_Att : wdA1 true true x v = wdA1X x v := by kernel_rfl
theorem wd_Atf : wdA1 true false x v = wdA1X x v := by kernel_rfl
theorem wd_Aft : wdA1 false true x v = wdA1X x v := by kernel_rfl
theorem wd_Aff : wdA1 false false x v = wdA1X x v := by kernel_rfl
theorem wd_Btt : wdB1 true true x v u = wdB1X x v u 7 0 (flB x v) (!flB x v) := by kernel_rfl
theorem wd_Btf : wdB1 true false x v u = wdB1X x v u 3 0 (flB x v) false := by kernel_rfl
theorem wd_Bft : wdB1 false true x v u = wdB1X x v u 3 1 (flB x v) false := by kernel_rfl
theorem wd_Bff : wdB1 false false x v u = wdB1X x v u 0 0 false false := by kernel_rfl
end
end Go.Proofs.Ytgiinciclnekjaa

/-
  The phases of a machine that is closed for some ticks and then to open, in plain numbers.
-/
set_option linter.unusedSimpArgs false
set_option linter.unusedVariables false
namespace Go.Proofs.Ytgiinciclnekjaa
open Sx Go.RowKit
section
variable {n o L N : Nat} {ph ca mi ti : Nat → Int} {b0 b1 : Nat → Bool}
structure WeldS (n o L N : Nat) (ph ca mi ti : Nat → Int) (b0 b1 : Nat → Bool) : Prop where
  hn : 3 ≤ n
  hLo : L < o ∧ o ≤ 8
  hN : n ≤ N ∧ N ≤ 80
  p0 : ph 0 = 0
  c0 : ca 0 = 0
  s0 : ph 1 = 1 ∧ ca 1 = 0
  s1 : ∀ k, k < N → ca k = 0 → ph k = 1 → k < n → ph (k + 1) = 2 ∧ ca (k + 1) = 0 ∧ mi (k + 1) = 0
  s2 : ∀ k, k < N → ca k = 0 → ph k = 2 → ∀ m, m = (bif !b0 k then IntKind.i64.wrap (mi k + 1) else bif !b1 k then IntKind.i64.wrap (mi k + 1) else 0) → m ≤ o → ph (k + 1) = (if k < n then 2 else 3) ∧ ca (k + 1) = 0 ∧ mi (k + 1) = m ∧ (¬ k < n → ti (k + 1) = 0)
  s3 : ∀ k, k < N → ca k = 0 → ph k = 3 → IntKind.i64.wrap (ti k + 1) < o → ph (k + 1) = 3 ∧ ca (k + 1) = 0 ∧ ti (k + 1) = IntKind.i64.wrap (ti k + 1)
  hbk : ∀ k, k < N → L + 2 ≤ k → k ≤ n → (∀ r, 2 ≤ r → r ≤ k → ph r = 2) → b0 k = true ∧ b1 k = true
theorem weld_mi (H : WeldS n o L N ph ca mi ti b0 b1) {k : Nat} (hkN : k < N) (h2 : 2 ≤ k) (hk : k ≤ n) (hp : ∀ r, 2 ≤ r → r ≤ k → ph r = 2) {M : Nat} (hM : mi k = M) (hM2 : M + 2 ≤ k) (hM3 : M ≤ L) :
    ∃ M' : Nat, (bif !b0 k then IntKind.i64.wrap (mi k + 1) else bif !b1 k then IntKind.i64.wrap (mi k + 1) else 0) = (M' : Int) ∧ M' ≤ L ∧ M' + 1 ≤ k := by
  have hlo := H.hLo
  have hN := H.hN
  have e : IntKind.i64.wrap (mi k + 1) = ((M + 1 : Nat) : Int) := by rw [hM, w64 (by omega)]; omega
  by_cases h : L + 2 ≤ k
  · obtain ⟨e0, e1⟩ := H.hbk k (by omega) h hk hp
    rw [e0, e1]
    exact ⟨0, rfl, by omega, by omega⟩
  · cases b0 k with
    | false => exact ⟨M + 1, e, by omega, by omega⟩
    | true =>
      cases b1 k with
      | false => exact ⟨M + 1, e, by omega, by omega⟩
      | true => exact ⟨0, rfl, by omega, by omega⟩
theorem weld_closed (H : WeldS n o L N ph ca mi ti b0 b1) : ∀ j, 2 + j ≤ n → (∀ r, 2 ≤ r → r ≤ 2 + j → ph r = 2) ∧ ca (2 + j) = 0 ∧ ∃ M : Nat, mi (2 + j) = M ∧ M + 2 ≤ 2 + j ∧ M ≤ L := by
  have hlo := H.hLo
  have hN := H.hN
  intro j
  induction j with
  | zero =>
    intro _
    have hn := H.hn
    obtain ⟨q1, q2, q3⟩ := H.s1 1 (by omega) H.s0.2 H.s0.1 (by omega)
    refine ⟨fun r h1 h2 => ?_, q2, 0, q3, by omega, by omega⟩
    obtain rfl : r = 2 := by omega
    exact q1
  | succ j ih =>
    intro hj
    obtain ⟨i1, i2, M, i3, i4, i5⟩ := ih (by omega)
    obtain ⟨M', m1, m2, m3⟩ := weld_mi H (by omega) (by omega) (by omega) i1 i3 i4 i5
    obtain ⟨q1, q2, q3, -⟩ := H.s2 (2 + j) (by omega) i2 (i1 _ (by omega) (Nat.le_refl _)) _ m1.symm (by omega)
    rw [if_pos (by omega)] at q1
    refine ⟨fun r h1 h2 => ?_, q2, M', q3, by omega, m2⟩
    rcases Nat.eq_or_lt_of_le h2 with e | e
    · subst e; exact q1
    · exact i1 r h1 (by omega)
theorem weld_opening (H : WeldS n o L N ph ca mi ti b0 b1) (hNo : n + o < N) : ∀ j, j + 1 ≤ o → ph (n + (j + 1)) = 3 ∧ ca (n + (j + 1)) = 0 ∧ ti (n + (j + 1)) = j := by
  have hlo := H.hLo
  have hN := H.hN
  have hn := H.hn
  intro j
  induction j with
  | zero =>
    intro _
    obtain ⟨i1, i2, M, i3, i4, i5⟩ := weld_closed H (n - 2) (by omega)
    rw [show 2 + (n - 2) = n by omega] at i1 i2 i3 i4
    obtain ⟨M', m1, m2, m3⟩ := weld_mi H (by omega) (by omega) (Nat.le_refl _) i1 i3 i4 i5
    obtain ⟨q1, q2, q3, q4⟩ := H.s2 n (by omega) i2 (i1 n (by omega) (Nat.le_refl _)) _ m1.symm (by omega)
    rw [if_neg (by omega)] at q1
    exact ⟨q1, q2, q4 (by omega)⟩
  | succ j ih =>
    intro hj
    obtain ⟨i1, i2, i3⟩ := ih (by omega)
    have e : IntKind.i64.wrap (ti (n + (j + 1)) + 1) = ((j + 1 : Nat) : Int) := by rw [i3, w64 (by omega)]; omega
    obtain ⟨q1, q2, q3⟩ := H.s3 (n + (j + 1)) (by omega) i2 i1 (by rw [e]; omega)
    exact ⟨q1, q2, q3.trans e⟩
end
section
variable (n : Nat → Int) (b : Nat → Bool) (m : Nat → Int) (h : Nat → Bool) (s : Nat → Int)
/-- At the end of opening: fired, tripped, or open. -/
theorem weld3 (hE : eS s = false) (hW : cW n b m h s = 0) (hl : loB n m = false) : nwI 0 3 n b m h s = (bif clB h then (bif cuB n b h s then 5 else 4) else 0) := by
  unfold nwI
  rw [pk3]
  refine (four_1 (four3 n b m h s)).trans ?_
  rw [hE]
  show ph3 n b m h s = _
  unfold ph3 ccB ca3
  rw [hl, hW]
  cases clB h <;> cases cuB n b h s <;> rfl
end
end Go.Proofs.Ytgiinciclnekjaa
