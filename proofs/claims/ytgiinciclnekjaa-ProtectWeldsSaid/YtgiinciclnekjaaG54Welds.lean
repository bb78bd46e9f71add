/-
  The truths of the law ProtectWelds in plain numbers.
-/
import Derived.Test.YtgiinciclnekjaaG53Welds
set_option linter.unusedSimpArgs false
set_option linter.unusedVariables false
namespace Go.Proofs.Ytgiinciclnekjaa
open Sx Go.RowKit
/-- The arguments' numbers. -/
structure WdOk (x : Nat → Int) : Prop where
  a : ∀ j, j < 4 → 0 ≤ x j ∧ x j ≤ 255
  b : -2147483648 ≤ x 4 ∧ x 4 ≤ 2147483647
/-- The cells of the row. -/
def WV (x : Nat → Int) (o : Nat) : Value := ((wL x ((o / 31 : Nat) : Int))[o % 31]?).getD undef
section
variable {x : Nat → Int} {T : Nat → Value} {N : Nat}
/-- The counts. -/
theorem wd_nums (hx : WdOk x) : ∃ n o L t : Nat, nW x = n ∧ oW x = o ∧ lW x = L ∧ tW x = t ∧ 3 ≤ n ∧ n ≤ 17 ∧ L < o ∧ o ≤ 8 ∧ L ≤ 7 ∧ n + o < t ∧ t ≤ 80 := by
  have h0 := hx.a 0 (by omega); have h1 := hx.a 1 (by omega); have h2 := hx.a 2 (by omega); have h3 := hx.a 3 (by omega)
  have w0 : IntKind.i64.wrap (x 0) = x 0 := w64 (by omega)
  have w1 : IntKind.i64.wrap (x 1) = x 1 := w64 (by omega)
  have w2 : IntKind.i64.wrap (x 2) = x 2 := w64 (by omega)
  have w3 : IntKind.i64.wrap (x 3) = x 3 := w64 (by omega)
  have en : nW x = 3 + x 2 % 10 + x 0 % 6 := by
    unfold nW
    rw [w2, w0, Int.tmod_eq_emod_of_nonneg h2.1, Int.tmod_eq_emod_of_nonneg h0.1, w64 (y := 3 + x 2 % 10) (by omega), w64 (by omega)]
  have eo : oW x = 1 + x 1 % 8 := by
    unfold oW
    rw [w1, Int.tmod_eq_emod_of_nonneg h1.1, w64 (by omega)]
  have em : mm false 6 (oW x) = if oW x < 6 then oW x else 6 := by unfold mm; rfl
  have hm : 0 < mm false 6 (oW x) ∧ mm false 6 (oW x) ≤ oW x ∧ mm false 6 (oW x) ≤ 6 := by rw [em]; split <;> omega
  have el : lW x = x 0 % mm false 6 (oW x) := by
    unfold lW
    rw [w0, Int.tmod_eq_emod_of_nonneg h0.1]
  have l1 := Int.emod_nonneg (x 0) (show mm false 6 (oW x) ≠ 0 by omega)
  have l2 := Int.emod_lt_of_pos (x 0) hm.1
  have et : tW x = nW x + oW x + 1 + x 3 % 20 := by
    unfold tW
    rw [w3, Int.tmod_eq_emod_of_nonneg h3.1, w64 (y := nW x + oW x) (by omega), w64 (y := nW x + oW x + 1) (by omega), w64 (by omega)]
  rw [← el] at l1 l2
  exact ⟨(nW x).toNat, (oW x).toNat, (lW x).toNat, (tW x).toNat, by omega, by omega, by omega, by omega, by omega, by omega, by omega, by omega, by omega, by omega, by omega⟩
theorem cu_in (x : Nat → Int) : -100000 ≤ (IntKind.i64.wrap (x 4)).tmod 100001 ∧ (IntKind.i64.wrap (x 4)).tmod 100001 ≤ 100000 := by
  have h1 := Int.tmod_lt_of_pos (IntKind.i64.wrap (x 4)) (show (0 : Int) < 100001 by decide)
  have h2 := Int.lt_tmod_of_pos (IntKind.i64.wrap (x 4)) (show (0 : Int) < 100001 by decide)
  omega
theorem WV_at {k j : Nat} (hj : j < 31) : WV x (k * 31 + j) = ((wL x (k : Int))[j]?).getD undef := by
  unfold WV
  rw [show (k * 31 + j) / 31 = k by omega, show (k * 31 + j) % 31 = j by omega]
theorem wrow_num (hT : ∀ o, o < N * 31 → T o = WV x o) {k : Nat} (hk : k < N) {j : Nat} (hj : j < 29) (h1 : j ≠ 25) (h2 : j ≠ 26) : T (k * 31 + j) = .int .i64 (wN x k j) := by
  have hb : k * 31 + 31 ≤ N * 31 := by have := Nat.mul_le_mul_right 31 (show k + 1 ≤ N from hk); omega
  rw [hT _ (by omega), WV_at (by omega)]
  match j, hj, h1, h2 with
  | 0, _, _, _ => rfl
  | 1, _, _, _ => rfl
  | 2, _, _, _ => rfl
  | 3, _, _, _ => rfl
  | 4, _, _, _ => rfl
  | 5, _, _, _ => rfl
  | 6, _, _, _ => rfl
  | 7, _, _, _ => rfl
  | 8, _, _, _ => rfl
  | 9, _, _, _ => rfl
  | 10, _, _, _ => rfl
  | 11, _, _, _ => rfl
  | 12, _, _, _ => rfl
  | 13, _, _, _ => rfl
  | 14, _, _, _ => rfl
  | 15, _, _, _ => rfl
  | 16, _, _, _ => rfl
  | 17, _, _, _ => rfl
  | 18, _, _, _ => rfl
  | 19, _, _, _ => rfl
  | 20, _, _, _ => rfl
  | 21, _, _, _ => rfl
  | 22, _, _, _ => rfl
  | 23, _, _, _ => rfl
  | 24, _, _, _ => rfl
  | 25, _, h, _ => exact absurd rfl h
  | 26, _, _, h => exact absurd rfl h
  | 27, _, _, _ => rfl
  | 28, _, _, _ => rfl
  | j + 29, h, _, _ => exact absurd h (by omega)
theorem wrow_bool (hT : ∀ o, o < N * 31 → T o = WV x o) {k : Nat} (hk : k < N) {j : Nat} (hj : j = 25 ∨ j = 26 ∨ j = 29 ∨ j = 30) : T (k * 31 + j) = .bool (wB x k j) := by
  have hb : k * 31 + 31 ≤ N * 31 := by have := Nat.mul_le_mul_right 31 (show k + 1 ≤ N from hk); omega
  rw [hT _ (by omega), WV_at (by omega)]
  rcases hj with rfl | rfl | rfl | rfl <;> rfl
theorem wN_in (x : Nat → Int) (i : Int) (j : Nat) : -1000000000 ≤ wN x i j ∧ wN x i j ≤ 1000000000 := by
  have c := cu_in x
  unfold wN
  split <;> first | decide | (cases decide (i ≥ nW x) <;> simp only [cond_true, cond_false] <;> omega)
/-- All truths are possible. -/
theorem wrow_ok (hT : ∀ o, o < N * 31 → T o = WV x o) {k : Nat} (hk : k < N) : truOk T k = true := by
  unfold truOk
  rw [Bool.and_eq_true]
  refine ⟨?_, ?_⟩
  · unfold isT
    rw [List.all_eq_true]
    intro j hj
    have hj := List.mem_range.1 hj
    by_cases hb : j = 25 ∨ j = 26 ∨ j = 29 ∨ j = 30
    · rw [wrow_bool hT hk hb]
      rcases hb with rfl | rfl | rfl | rfl <;> rfl
    · rw [wrow_num hT hk (by omega) (by omega) (by omega)]
      match j, hj, hb with
      | 0, _, _ => rfl
      | 1, _, _ => rfl
      | 2, _, _ => rfl
      | 3, _, _ => rfl
      | 4, _, _ => rfl
      | 5, _, _ => rfl
      | 6, _, _ => rfl
      | 7, _, _ => rfl
      | 8, _, _ => rfl
      | 9, _, _ => rfl
      | 10, _, _ => rfl
      | 11, _, _ => rfl
      | 12, _, _ => rfl
      | 13, _, _ => rfl
      | 14, _, _ => rfl
      | 15, _, _ => rfl
      | 16, _, _ => rfl
      | 17, _, _ => rfl
      | 18, _, _ => rfl
      | 19, _, _ => rfl
      | 20, _, _ => rfl
      | 21, _, _ => rfl
      | 22, _, _ => rfl
      | 23, _, _ => rfl
      | 24, _, _ => rfl
      | 25, _, hb => exact absurd (by omega) hb
      | 26, _, hb => exact absurd (by omega) hb
      | 27, _, _ => rfl
      | 28, _, _ => rfl
      | 29, _, hb => exact absurd (by omega) hb
      | 30, _, hb => exact absurd (by omega) hb
      | j + 31, h, _ => exact absurd h (by omega)
  · have e : posB (trI T (k * 31)) = posB (wN x k) := posB_congr fun j hj h1 h2 => by
      unfold trI
      rw [wrow_num hT hk hj h1 h2]; rfl
    rw [e]
    have w := wN_in x (k : Int)
    refine posB_of (fun q hq => ⟨qB_in ?_, qB_in ?_, rB_in ?_, rB_in ?_, rB_in ?_⟩) (qB_in ?_) (qB_in ?_)
    · have := w q; omega
    · have := w (20 + q); omega
    · have := w (5 + q); omega
    · have := w (10 + q); omega
    · have := w (15 + q); omega
    · have := w 27; omega
    · have := w 28; omega
end
end Go.Proofs.Ytgiinciclnekjaa

/-
  The law ProtectWelds: what the machine sees: three channels that agree.
-/
set_option linter.unusedSimpArgs false
set_option linter.unusedVariables false
namespace Go.Proofs.Ytgiinciclnekjaa
open Sx Go.RowKit
def gX (x : Nat → Int) : Nat → Int := nOf (gsL (nOf (gsL (gW x))))
theorem gX_at {x : Nat → Int} {j : Nat} (hj : j < 22) : gX x j = gW x j := by
  match j, hj with
  | 0, _ => rfl
  | 1, _ => rfl
  | 2, _ => rfl
  | 3, _ => rfl
  | 4, _ => rfl
  | 5, _ => rfl
  | 6, _ => rfl
  | 7, _ => rfl
  | 8, _ => rfl
  | 9, _ => rfl
  | 10, _ => rfl
  | 11, _ => rfl
  | 12, _ => rfl
  | 13, _ => rfl
  | 14, _ => rfl
  | 15, _ => rfl
  | 16, _ => rfl
  | 17, _ => rfl
  | 18, _ => rfl
  | 19, _ => rfl
  | 20, _ => rfl
  | 21, _ => rfl
  | j + 22, h => exact absurd h (by omega)
section
variable {K A : Nat} {x : Nat → Int} {lag : Int} {T : Nat → Value} {N k : Nat}
noncomputable def cbW (K A : Nat) (x : Nat → Int) (lag : Int) (T : Nat → Value) (k : Nat) : Nat → Bool := bOf (pN K A false (nOf (gsL (gW x))) lag T k).cs
noncomputable def ciW (K A : Nat) (x : Nat → Int) (lag : Int) (T : Nat → Value) (k : Nat) : Nat → Int := nOf (pN K A false (nOf (gsL (gW x))) lag T k).cs
noncomputable def hbW (K A : Nat) (x : Nat → Int) (lag : Int) (T : Nat → Value) (k : Nat) : Nat → Bool := bOf (sgK K A false (nOf (gsL (gW x))) lag T k)
noncomputable def hiW (K A : Nat) (x : Nat → Int) (lag : Int) (T : Nat → Value) (k : Nat) : Nat → Int := nOf (sgK K A false (nOf (gsL (gW x))) lag T k)
theorem w_ch (hK : K = 0 ∨ K = 3 ∨ K = 7) (i : Nat) : muB K A i = false ∧ liB K A i = false ∧ wiB K A i = false ∧ baB K A i = false ∧ skB K A i = false := by
  unfold muB liB wiB baB skB
  rw [beq_ff.2 (show K ≠ 2 by omega), beq_ff.2 (show K ≠ 1 by omega), beq_ff.2 (show K ≠ 5 by omega), beq_ff.2 (show K ≠ 6 by omega), beq_ff.2 (show K ≠ 4 by omega)]
  exact ⟨rfl, rfl, rfl, rfl, rfl⟩
theorem w_val (hK : K = 0 ∨ K = 3 ∨ K = 7) (hT : ∀ o, o < N * 31 → T o = WV x o) (hk : k < N) {i q : Nat} (hi : i < 3) (hq : q < 5) : hiW K A x lag T k (6 * i + 1 + q) = wN x k q := by
  obtain ⟨h1, h2, -⟩ := w_ch (A := A) hK i
  unfold hiW
  rw [sg_val _ i q hi hq, h1, h2]
  have e1 : trI T (k * 31) q = wN x k q := by
    unfold trI
    rw [wrow_num hT hk (by omega) (by omega) (by omega)]; rfl
  have e2 : trI T (k * 31) (5 + (5 * i + q)) = 0 := by
    unfold trI
    rw [wrow_num hT hk (by omega) (by omega) (by omega)]
    have hz : ∀ j, 5 ≤ j → j < 20 → wN x k j = 0 := fun j h1 h2 => by
      unfold wN
      split <;> first | omega | rfl
    exact hz _ (by omega) (by omega)
  rw [e1, e2]
  have := wN_in x k q
  simp only [cond_false]
  rw [w64 (by omega)]; omega
theorem w_two (hK : K = 0 ∨ K = 3 ∨ K = 7) (hT : ∀ o, o < N * 31 → T o = WV x o) (hk : k < N) {q : Nat} (hq : q < 5) : TwoNear 0 (hiW K A x lag T k (1 + q)) (hiW K A x lag T k (7 + q)) (hiW K A x lag T k (13 + q)) (wN x k q) 0 := by
  have k1 := w_val (A := A) (lag := lag) hK hT hk (i := 1) (q := q) (by omega) hq
  have k2 := w_val (A := A) (lag := lag) hK hT hk (i := 2) (q := q) (by omega) hq
  rw [show 6 * 1 + 1 + q = 7 + q by omega] at k1
  rw [show 6 * 2 + 1 + q = 13 + q by omega] at k2
  exact Or.inl ⟨rfl, by omega, by omega, by omega, by omega⟩
theorem w_spread {q : Nat} (hq : q < 5) : 0 ≤ gX x (6 + q) ∧ gX x (6 + q) ≤ 65535 := by
  rw [gX_at (by omega)]
  match q, hq with
  | 0, _ => exact ⟨by show (0 : Int) ≤ 20000; decide, by show (20000 : Int) ≤ 65535; decide⟩
  | 1, _ => exact ⟨by show (0 : Int) ≤ 20000; decide, by show (20000 : Int) ≤ 65535; decide⟩
  | 2, _ => exact ⟨by show (0 : Int) ≤ 1000; decide, by show (1000 : Int) ≤ 65535; decide⟩
  | 3, _ => exact ⟨by show (0 : Int) ≤ 2000; decide, by show (2000 : Int) ≤ 65535; decide⟩
  | 4, _ => exact ⟨by show (0 : Int) ≤ 10000; decide, by show (10000 : Int) ≤ 65535; decide⟩
/-- The votes are what is true. -/
theorem w_vote (hK : K = 0 ∨ K = 3 ∨ K = 7) (hT : ∀ o, o < N * 31 → T o = WV x o) (hk : k < N) {c : Nat → Bool} (hc : ∀ i, i < 3 → c i = false) {q : Nat} (hq : q < 5) :
    oQ (gX x) (hbW K A x lag T k) (hiW K A x lag T k) c q = true ∧ lQ (gX x) (hbW K A x lag T k) (hiW K A x lag T k) c q = wN x k q ∧ hQ (gX x) (hbW K A x lag T k) (hiW K A x lag T k) c q = wN x k q := by
  have s := w_spread (x := x) hq
  have hus : ∀ i, i < 3 → us (hbW K A x lag T k (6 * i)) (c i) = true := fun i h3 => by
    unfold hbW
    rw [sg_has _ i h3, hc i h3, (w_ch hK i).1]; rfl
  have h := vote_near (F := 0) (u0 := us (hbW K A x lag T k 0) (c 0)) (u1 := us (hbW K A x lag T k 6) (c 1)) (u2 := us (hbW K A x lag T k 12) (c 2)) (s := gX x (6 + q)) (w_two (A := A) (lag := lag) hK hT hk hq) (fun i hi => ⟨fun h => (hi h).elim, fun h => hus 1 (by omega), fun h => hus 2 (by omega)⟩) (by omega) s.1 s.2
  unfold oQ lQ hQ
  refine ⟨h.1, ?_, ?_⟩
  · have := h.2.1; have := h.2.2.1; omega
  · have := h.2.2.2.1; have := h.2.2.2.2; omega
/-- No channel is apart. -/
theorem w_apart (hK : K = 0 ∨ K = 3 ∨ K = 7) (hT : ∀ o, o < N * 31 → T o = WV x o) (hk : k < N) {c : Nat → Bool} {i : Nat} (hi : i < 3) : apP (gX x) (hbW K A x lag T k) (hiW K A x lag T k) c i = false := by
  unfold apP
  rw [apF_eq]
  have e0 : (bif !c i then !hbW K A x lag T k (6 * i) else false) = false := by
    unfold hbW
    rw [sg_has _ i hi, (w_ch hK i).1]
    cases c i <;> rfl
  have far : ∀ q, q < 5 → farV (hiW K A x lag T k (6 * i + 1 + q)) (med (hiW K A x lag T k (1 + q)) (hiW K A x lag T k (7 + q)) (hiW K A x lag T k (13 + q))) (gX x (6 + q)) = false := by
    intro q hq
    have s := w_spread (x := x) hq
    have m := med_near (w_two (A := A) (lag := lag) hK hT hk hq)
    have w := w_val (A := A) (lag := lag) hK hT hk hi hq
    exact far_near (by omega) (by omega) s.1 s.2
  have e2 : (farL (hiW K A x lag T k) (gX x) (6 * i + 1)).any id = false := by
    unfold farL
    simp only [List.any_cons, List.any_nil, id, Bool.or_false]
    have f0 := far 0 (by omega); have f1 := far 1 (by omega); have f2 := far 2 (by omega); have f3 := far 3 (by omega); have f4 := far 4 (by omega)
    simp only [Nat.add_zero] at f0
    simp only [Nat.add_zero]
    rw [f0]
    rw [show farV (hiW K A x lag T k (6 * i + 1 + 1)) _ _ = false from f1, show farV (hiW K A x lag T k (6 * i + 1 + 2)) _ _ = false from f2, show farV (hiW K A x lag T k (6 * i + 1 + 3)) _ _ = false from f3, show farV (hiW K A x lag T k (6 * i + 1 + 4)) _ _ = false from f4]
    rfl
  rw [e0, e2, Bool.and_false, Bool.false_or]
end
end Go.Proofs.Ytgiinciclnekjaa

/-
  A calm life in plain numbers: phases, counters, what is wanted, what the contactors report.
-/
set_option linter.unusedSimpArgs false
set_option linter.unusedVariables false
namespace Go.Proofs.Ytgiinciclnekjaa
open Sx Go.RowKit
section
variable {N L O : Nat} {ph ca mi ti : Nat → Int} {wa cl b0 b1 : Nat → Bool} {wn : Nat → Nat}
structure CalmS (N L O : Nat) (ph ca mi ti : Nat → Int) (wa cl b0 b1 : Nat → Bool) (wn : Nat → Nat) : Prop where
  h80 : N ≤ 80
  hLO : L < O ∧ O ≤ 8
  p0 : ph 0 = 0
  c0 : ca 0 = 0
  w0 : wn 0 = 0
  wN : ∀ k, wn (k + 1) = bif wa k then wn k + 1 else 0
  s0 : ∀ k, k < N → ca k = 0 → ph k = 0 → cl k = false → ph (k + 1) = (bif wa k then 1 else 0) ∧ ca (k + 1) = 0
  s1 : ∀ k, k < N → ca k = 0 → ph k = 1 → ph (k + 1) = (bif wa k then 2 else 3) ∧ ca (k + 1) = 0 ∧ (wa k = true → mi (k + 1) = 0) ∧ (wa k = false → ti (k + 1) = 0)
  s2 : ∀ k, k < N → ca k = 0 → ph k = 2 → ∀ m, m = (bif !b0 k then IntKind.i64.wrap (mi k + 1) else bif !b1 k then IntKind.i64.wrap (mi k + 1) else 0) → m ≤ O → ph (k + 1) = (bif wa k then 2 else 3) ∧ ca (k + 1) = 0 ∧ mi (k + 1) = m ∧ (wa k = false → ti (k + 1) = 0)
  s3 : ∀ k, k < N → ca k = 0 → ph k = 3 → (IntKind.i64.wrap (ti k + 1) < O → ph (k + 1) = 3 ∧ ca (k + 1) = 0 ∧ ti (k + 1) = IntKind.i64.wrap (ti k + 1)) ∧ (¬ IntKind.i64.wrap (ti k + 1) < O → cl k = false → ph (k + 1) = 0 ∧ ca (k + 1) = 0)
  hcl : ∀ k, k < N → (∀ r, r + L + 1 = k → ph (r + 1) = 0 ∨ ph (r + 1) = 3) → cl k = false
  hbk : ∀ k, k < N → ∀ r, r + L + 1 = k → ph (r + 1) = 2 → b0 k = true ∧ b1 k = true
/-- What holds ahead of step k. -/
structure CaInv (L O : Nat) (ph ca mi ti : Nat → Int) (wn : Nat → Nat) (k : Nat) : Prop where
  hca : ca k = 0
  hph : ph k = 0 ∨ ph k = 1 ∨ ph k = 2 ∨ ph k = 3
  p0 : ph k = 0 → wn k ≤ O ∧ ∀ r, r < k → k ≤ r + L + 1 → ph (r + 1) = 0 ∨ ph (r + 1) = 3
  p2 : ph k = 2 → ∃ M : Nat, mi k = M ∧ M ≤ L ∧ M < k ∧ ∀ r, r < k → k ≤ r + 1 + M → ph (r + 1) = 2
  p3 : ph k = 3 → ∃ t : Nat, ti k = t ∧ t < O ∧ t < k ∧ wn k ≤ t ∧ ∀ r, r < k → k ≤ r + 1 + t → ph (r + 1) = 3
theorem ca_next (H : CalmS N L O ph ca mi ti wa cl b0 b1 wn) {k : Nat} (hk : k < N) (I : CaInv L O ph ca mi ti wn k) : CaInv L O ph ca mi ti wn (k + 1) := by
  have hlo := H.hLO
  have h80 := H.h80
  have wN := H.wN k
  rcases I.hph with h | h | h | h
  · obtain ⟨w0, off⟩ := I.p0 h
    have hcl := H.hcl k hk fun r hr => off r (by omega) (by omega)
    obtain ⟨pn, c0⟩ := H.s0 k hk I.hca h hcl
    cases hw : wa k with
    | true =>
      rw [hw, cond_true] at pn
      exact ⟨c0, by omega, fun e => by omega, fun e => by omega, fun e => by omega⟩
    | false =>
      rw [hw, cond_false] at pn
      rw [hw, cond_false] at wN
      refine ⟨c0, by omega, fun _ => ⟨by omega, fun r h1 h2 => ?_⟩, fun e => by omega, fun e => by omega⟩
      rcases Nat.eq_or_lt_of_le (Nat.le_of_lt_succ h1) with e | e
      · subst e; exact Or.inl pn
      · exact off r e (by omega)
  · obtain ⟨pn, c0, q2, q3⟩ := H.s1 k hk I.hca h
    cases hw : wa k with
    | true =>
      rw [hw, cond_true] at pn
      refine ⟨c0, by omega, fun e => by omega, fun _ => ⟨0, q2 hw, by omega, by omega, fun r h1 h2 => ?_⟩, fun e => by omega⟩
      obtain rfl : r = k := by omega
      exact pn
    | false =>
      rw [hw, cond_false] at pn
      rw [hw, cond_false] at wN
      refine ⟨c0, by omega, fun e => by omega, fun e => by omega, fun _ => ⟨0, q3 hw, by omega, by omega, by omega, fun r h1 h2 => ?_⟩⟩
      obtain rfl : r = k := by omega
      exact pn
  · obtain ⟨M, m1, m2, m3, m4⟩ := I.p2 h
    have hmi : ∃ M' : Nat, (bif !b0 k then IntKind.i64.wrap (mi k + 1) else bif !b1 k then IntKind.i64.wrap (mi k + 1) else 0) = (M' : Int) ∧ M' ≤ L ∧ (M' = 0 ∨ M' = M + 1) := by
      by_cases hML : M = L
      · have e2 := m4 (k - 1 - L) (by omega) (by omega)
        obtain ⟨e0, e1⟩ := H.hbk k hk (k - 1 - L) (by omega) e2
        rw [e0, e1]
        exact ⟨0, rfl, by omega, Or.inl rfl⟩
      · have e : IntKind.i64.wrap (mi k + 1) = ((M + 1 : Nat) : Int) := by rw [m1, w64 (by omega)]; omega
        cases b0 k with
        | false => exact ⟨M + 1, e, by omega, Or.inr rfl⟩
        | true =>
          cases b1 k with
          | false => exact ⟨M + 1, e, by omega, Or.inr rfl⟩
          | true => exact ⟨0, rfl, by omega, Or.inl rfl⟩
    obtain ⟨M', n1, n2, n3⟩ := hmi
    obtain ⟨pn, c0, q2, q3⟩ := H.s2 k hk I.hca h _ n1.symm (by omega)
    cases hw : wa k with
    | true =>
      rw [hw, cond_true] at pn
      refine ⟨c0, by omega, fun e => by omega, fun _ => ⟨M', q2, n2, by omega, fun r h1 h2 => ?_⟩, fun e => by omega⟩
      rcases Nat.eq_or_lt_of_le (Nat.le_of_lt_succ h1) with e | e
      · subst e; exact pn
      · exact m4 r e (by omega)
    | false =>
      rw [hw, cond_false] at pn
      rw [hw, cond_false] at wN
      refine ⟨c0, by omega, fun e => by omega, fun e => by omega, fun _ => ⟨0, q3 hw, by omega, by omega, by omega, fun r h1 h2 => ?_⟩⟩
      obtain rfl : r = k := by omega
      exact pn
  · obtain ⟨t, t1, t2, t3, t4, t5⟩ := I.p3 h
    obtain ⟨q1, q2⟩ := H.s3 k hk I.hca h
    have e : IntKind.i64.wrap (ti k + 1) = ((t + 1 : Nat) : Int) := by rw [t1, w64 (by omega)]; omega
    have wn' : wn (k + 1) ≤ t + 1 := by rw [wN]; cases wa k <;> simp only [cond_true, cond_false] <;> omega
    rw [e] at q1 q2
    by_cases ht : t + 1 < O
    · obtain ⟨pn, c0, a2⟩ := q1 (by omega)
      refine ⟨c0, by omega, fun e => by omega, fun e => by omega, fun _ => ⟨t + 1, a2, ht, by omega, wn', fun r h1 h2 => ?_⟩⟩
      rcases Nat.eq_or_lt_of_le (Nat.le_of_lt_succ h1) with e | e
      · subst e; exact pn
      · exact t5 r e (by omega)
    · have hcl := H.hcl k hk fun r hr => Or.inr (t5 r (by omega) (by omega))
      obtain ⟨pn, c0⟩ := q2 (by omega) hcl
      refine ⟨c0, by omega, fun _ => ⟨by omega, fun r h1 h2 => ?_⟩, fun e => by omega, fun e => by omega⟩
      rcases Nat.eq_or_lt_of_le (Nat.le_of_lt_succ h1) with e | e
      · subst e; exact Or.inl pn
      · exact Or.inr (t5 r e (by omega))
theorem ca_inv (H : CalmS N L O ph ca mi ti wa cl b0 b1 wn) : ∀ k, k ≤ N → CaInv L O ph ca mi ti wn k
  | 0, _ => ⟨H.c0, Or.inl H.p0, fun _ => ⟨by rw [H.w0]; omega, fun r hr => by omega⟩, fun h => (by rw [H.p0] at h; omega), fun h => (by rw [H.p0] at h; omega)⟩
  | k + 1, h => ca_next H h (ca_inv H k (by omega))
theorem wn_le (H : CalmS N L O ph ca mi ti wa cl b0 b1 wn) : ∀ k, wn k ≤ k
  | 0 => by rw [H.w0]; omega
  | k + 1 => by rw [H.wN]; have := wn_le H k; cases wa k <;> simp only [cond_true, cond_false] <;> omega
theorem wn_back (H : CalmS N L O ph ca mi ti wa cl b0 b1 wn) : ∀ j k, j ≤ k → wn k ≤ wn (k - j) + j
  | 0, k, _ => Nat.le_refl _
  | j + 1, 0, h => by omega
  | j + 1, k + 1, h => by
    have := wn_back H j k (by omega)
    rw [show k + 1 - (j + 1) = k - j by omega, H.wN]
    cases wa k <;> simp only [cond_true, cond_false] <;> omega
/-- Wanted for long enough: something is driven a lag ago. -/
theorem wn_driven (H : CalmS N L O ph ca mi ti wa cl b0 b1 wn) {k : Nat} (hk : k < N) (hw : O + L + 2 < wn (k + 1)) : L ≤ k ∧ (ph (k - L + 1) = 1 ∨ ph (k - L + 1) = 2) := by
  have hle := wn_le H (k + 1)
  have hbk := wn_back H L (k + 1) (by omega)
  refine ⟨by omega, ?_⟩
  have J := ca_inv H (k - L + 1) (by omega)
  rw [show k + 1 - L = k - L + 1 by omega] at hbk
  rcases J.hph with h | h | h | h
  · have := (J.p0 h).1; omega
  · exact Or.inl h
  · exact Or.inr h
  · obtain ⟨t, t1, t2, t3, t4, t5⟩ := J.p3 h; omega
theorem ca_ne5 (H : CalmS N L O ph ca mi ti wa cl b0 b1 wn) {k : Nat} (hk : k ≤ N) : ph k ≠ 5 := by
  have := (ca_inv H k hk).hph; omega
end
end Go.Proofs.Ytgiinciclnekjaa

/-
  A calm life: the machine never trips, and follows what is wanted.
-/
set_option linter.unusedSimpArgs false
set_option linter.unusedVariables false
namespace Go.Proofs.Ytgiinciclnekjaa
open Sx Go.RowKit
/-- What is given. -/
structure CalmH (K A : Nat) (x : Nat → Int) (lag : Int) (f T : Nat → Value) (len N L O : Nat) : Prop where
  hK : K = 0 ∨ K = 1 ∨ K = 2 ∨ K = 5
  hA : A < 3
  hx : LfOk x
  hf : ∀ j, j < len → All2 Lf.ok lsTk (elAt f 27 j)
  hN : N ≤ len
  h80 : N ≤ 80
  hT : ∀ o, o < N * 31 → T o = TV x f o
  hb : ∀ k, k < N → ∀ j, j < 6 → tkI f (k * 27) j ≤ 0
  hw : ∀ k, k < N → trBl (tkI f (k * 27)) 25 = false ∧ trBl (tkI f (k * 27)) 26 = false
  hl : ∀ k, k < N → trN (guN x) (tkI f (k * 27)) 27 = 400000000
  hL : lag = L
  hO : guN x 20 = O
  hLO : L < O ∧ O ≤ 8
section
variable {K A : Nat} {B : Bool} {lag : Int} {x : Nat → Int} {f T : Nat → Value} {len N L O k : Nat}
/-- The phase ahead of step k; whether it is wanted in step k; for how long it has been. -/
noncomputable def phK (K A : Nat) (B : Bool) (x : Nat → Int) (lag : Int) (T : Nat → Value) (k : Nat) : Int := (pN K A B (nOf (gsL (guN x))) lag T k).p
def waK (T : Nat → Value) (k : Nat) : Bool := trB T (k * 31) 29
def wnK (T : Nat → Value) : Nat → Nat
  | 0 => 0
  | k + 1 => bif waK T k then wnK T k + 1 else 0
theorem sg_want (n : Nat → Int) : bOf (sgK K A B n lag T k) 29 = waK T k := by
  have e0 : (pN K A B n lag T k).i.toNat = k := by rw [pN_i]; rfl
  have e : bOf (sgK K A B n lag T k) 29 = trB T ((pN K A B n lag T k).i.toNat * 31) 29 := rfl
  rw [e, e0]; rfl
theorem sg_back (n : Nat → Int) {i : Nat} (hi : i < 3) (hK : K ≠ 6) : bOf (sgK K A B n lag T k) (24 + i) = shu K A B n lag T k i := by
  have hb : baB K A i = false := by
    unfold baB
    rw [beq_ff.2 hK]; rfl
  have e : bOf (sgK K A B n lag T k) (24 + i) = bif baB K A i then B else shu K A B n lag T k i := by
    match i, hi with
    | 0, _ => rfl
    | 1, _ => rfl
    | 2, _ => rfl
  rw [e, hb]; rfl
theorem ph_next (H : CalmH K A x lag f T len N L O) (hk : k < N) : phK K A B x lag T (k + 1) = nwI 0 (phK K A B x lag T k) (gN x) (cB K A B x lag T k) (cI K A B x lag T k) (hB K A B x lag T k) (hI K A B x lag T k) := rfl
theorem c0_next : cI K A B x lag T (k + 1) 0 = nwI 1 (phK K A B x lag T k) (gN x) (cB K A B x lag T k) (cI K A B x lag T k) (hB K A B x lag T k) (hI K A B x lag T k) := rfl
theorem c14_next : cI K A B x lag T (k + 1) 14 = nwI 15 (phK K A B x lag T k) (gN x) (cB K A B x lag T k) (cI K A B x lag T k) (hB K A B x lag T k) (hI K A B x lag T k) := rfl
theorem c15_next : cI K A B x lag T (k + 1) 15 = nwI 16 (phK K A B x lag T k) (gN x) (cB K A B x lag T k) (cI K A B x lag T k) (hB K A B x lag T k) (hI K A B x lag T k) := rfl
theorem drv_ph (H : CalmH K A x lag f T len N L O) (hk : k < N) : drv K A B (nOf (gsL (guN x))) lag T k 0 = dr0 (phK K A B x lag T (k + 1)) ∧ drv K A B (nOf (gsL (guN x))) lag T k 1 = dr1 (phK K A B x lag T (k + 1)) ∧ drv K A B (nOf (gsL (guN x))) lag T k 2 = dr2 (phK K A B x lag T (k + 1)) ∧ drv K A B (nOf (gsL (guN x))) lag T k 3 = (phK K A B x lag T (k + 1) == 5) :=
  acts_ph (gN x) (cB K A B x lag T k) (cI K A B x lag T k) (hB K A B x lag T k) (hI K A B x lag T k) (pN_p K A B (nOf (gsL (guN x))) lag T k) (eS_k H.hx H.hf H.hN H.hT hk)
theorem no_sk (H : CalmH K A x lag f T len N L O) (i : Nat) : skB K A i = false ∧ weB K A i = false := by
  have h := H.hK
  unfold skB weB
  rw [beq_ff.2 (show K ≠ 4 by omega), beq_ff.2 (show K ≠ 3 by omega), beq_ff.2 (show K ≠ 7 by omega)]
  exact ⟨rfl, rfl⟩
/-- A contactor reports what was driven a lag ago. -/
theorem back_iff (H : CalmH K A x lag f T len N L O) {i : Nat} (hi : i < 3) (k : Nat) : hB K A B x lag T k (24 + i) = true ↔ ∃ r, r + L + 1 = k ∧ drv K A B (nOf (gsL (guN x))) lag T r i = true := by
  have h := H.hK
  have h2 := H.hLO
  unfold hB
  rw [sg_back _ hi (by omega)]
  exact shu_lag K A B _ lag T L H.hL (by omega) hi (no_sk H i).1 (no_sk H i).2 k
theorem link_full (H : CalmH K A x lag f T len N L O) (hk : k < N) : lkB (gN x) (hI K A B x lag T k) = true := by
  have e0 : (pN K A B (nOf (gsL (guN x))) lag T k).i.toNat = k := by rw [pN_i]; rfl
  have e1 : hI K A B x lag T k 27 = trI T (k * 31) 27 := by
    show trI T ((pN K A B (nOf (gsL (guN x))) lag T k).i.toNat * 31) 27 = _
    rw [e0]
  have e2 : hI K A B x lag T k 28 = trI T (k * 31) 28 := by
    show trI T ((pN K A B (nOf (gsL (guN x))) lag T k).i.toNat * 31) 28 = _
    rw [e0]
  have r1 : trI T (k * 31) 27 = 400000000 := by
    unfold trI
    rw [row_num H.hT hk (by omega) (by omega) (by omega)]
    exact H.hl k hk
  have r2 : trI T (k * 31) 28 = 400000000 := by
    unfold trI
    rw [row_num H.hT hk (by omega) (by omega) (by omega)]; rfl
  unfold lkB
  rw [e1, e2, r1, r2, gN_at (by omega)]
  show decide (IntKind.i64.wrap (400000000 * 65536) ≥ IntKind.i64.wrap (400000000 * 58982)) = true
  decide
theorem no_crash (H : CalmH K A x lag f T len N L O) (hk : k < N) : cn3 (hB K A B x lag T k) 18 < 2 ∧ cn3 (hB K A B x lag T k) 21 < 2 := by
  have w := H.hw k hk
  have t1 : trB T (k * 31) 25 = false := by
    unfold trB
    rw [row_bool H.hT hk (Or.inl rfl)]; exact w.1
  have t2 : trB T (k * 31) 26 = false := by
    unfold trB
    rw [row_bool H.hT hk (Or.inr (Or.inl rfl))]; exact w.2
  have key : ∀ {g : Nat → Bool}, (∀ i, i < 3 → g i = bif wiB K A i then B else false) → ∀ i j, i < 3 → j < 3 → i ≠ j → g i = false ∨ g j = false := by
    intro g hg i j hi hj hne
    cases hw : wiB K A i with
    | false => left; rw [hg i hi, hw]; rfl
    | true => right; rw [hg j hj, wi_one hw (Ne.symm hne)]; rfl
  have k1 := key (g := fun i => hB K A B x lag T k (18 + i)) fun i hi => by
    have := (sg_crash (K := K) (A := A) (B := B) (n := nOf (gsL (guN x))) (lag := lag) (T := T) (k := k) i hi).1
    rw [t1] at this; exact this
  have k2 := key (g := fun i => hB K A B x lag T k (21 + i)) fun i hi => by
    have := (sg_crash (K := K) (A := A) (B := B) (n := nOf (gsL (guN x))) (lag := lag) (T := T) (k := k) i hi).2
    rw [t2] at this; exact this
  exact ⟨cn3_one (k1 0 1 (by omega) (by omega) (by omega)) (k1 0 2 (by omega) (by omega) (by omega)) (k1 1 2 (by omega) (by omega) (by omega)), cn3_one (k2 0 1 (by omega) (by omega) (by omega)) (k2 0 2 (by omega) (by omega) (by omega)) (k2 1 2 (by omega) (by omega) (by omega))⟩
theorem cW_calm (H : CalmH K A x lag f T len N L O) (hk : k < N) (h0 : cI K A B x lag T k 0 = 0) : cW (gN x) (cB K A B x lag T k) (cI K A B x lag T k) (hB K A B x lag T k) (hI K A B x lag T k) = 0 := by
  have I := ma_inv (K := K) (A := A) (B := B) (lag := lag) H.hA H.hx H.hf H.hN H.h80 H.hT k (by omega)
  have nc := no_crash (B := B) H hk
  refine cW_zero _ _ _ _ _ (fun i hi => now_calm H.hA H.hx H.hf H.hN H.hT hk I.marks (H.hb k hk) hi) (fun i hi => ?_) h0 nc.1 nc.2
  rw [gN_at (by omega)]
  have := gu_deb H.hx hi
  omega
theorem not_closed (H : CalmH K A x lag f T len N L O) (hk : k < N) (ho : ∀ r, r + L + 1 = k → phK K A B x lag T (r + 1) = 0 ∨ phK K A B x lag T (r + 1) = 3) : clB (hB K A B x lag T k) = false := by
  refine clB_no fun i hi => ?_
  cases hb : hB K A B x lag T k (24 + i) with
  | false => rfl
  | true =>
    exfalso
    obtain ⟨r, hr, hd⟩ := (back_iff H hi k).1 hb
    obtain ⟨d0, d1, d2, -⟩ := drv_ph (B := B) H (show r < N by omega)
    have hz : ∀ X : Int, X = 0 ∨ X = 3 → dr0 X = false ∧ dr1 X = false ∧ dr2 X = false := fun X h => by rcases h with rfl | rfl <;> exact ⟨rfl, rfl, rfl⟩
    obtain ⟨z0, z1, z2⟩ := hz _ (ho r hr)
    rcases (show i = 0 ∨ i = 1 ∨ i = 2 by omega) with e | e | e
    · rw [e, d0, z0] at hd; exact Bool.noConfusion hd
    · rw [e, d1, z1] at hd; exact Bool.noConfusion hd
    · rw [e, d2, z2] at hd; exact Bool.noConfusion hd
theorem calm_s (H : CalmH K A x lag f T len N L O) : CalmS N L O (phK K A B x lag T) (fun k => cI K A B x lag T k 0) (fun k => cI K A B x lag T k 14) (fun k => cI K A B x lag T k 15) (waK T) (fun k => clB (hB K A B x lag T k)) (fun k => hB K A B x lag T k 24) (fun k => hB K A B x lag T k 25) (wnK T) := by
  have hOg : gN x 20 = O := (gN_at (by omega)).trans H.hO
  have hwa : ∀ k, hB K A B x lag T k 29 = waK T k := fun k => sg_want _
  refine ⟨H.h80, H.hLO, rfl, rfl, rfl, fun k => rfl, fun k hk hc hp hcl => ?_, fun k hk hc hp => ?_, fun k hk hc hp m hm hmO => ?_, fun k hk hc hp => ?_, fun k hk ho => not_closed H hk ho, fun k hk r hr h2 => ?_⟩
  · obtain ⟨q0, q1⟩ := calm0 (gN x) (cB K A B x lag T k) (cI K A B x lag T k) (hB K A B x lag T k) (hI K A B x lag T k) (eS_k H.hx H.hf H.hN H.hT hk) (cW_calm H hk hc) hcl
    rw [hwa k] at q0
    have pn := ph_next (B := B) H hk
    have cn := c0_next (K := K) (A := A) (B := B) (x := x) (lag := lag) (T := T) (k := k)
    rw [hp] at pn cn
    exact ⟨pn.trans q0, cn.trans q1⟩
  · obtain ⟨q0, q1, q2, q3⟩ := calm1 (gN x) (cB K A B x lag T k) (cI K A B x lag T k) (hB K A B x lag T k) (hI K A B x lag T k) (eS_k H.hx H.hf H.hN H.hT hk) (cW_calm H hk hc) (link_full H hk)
    rw [hwa k] at q0 q2 q3
    have pn := ph_next (B := B) H hk
    have cn := c0_next (K := K) (A := A) (B := B) (x := x) (lag := lag) (T := T) (k := k)
    have mn := c14_next (K := K) (A := A) (B := B) (x := x) (lag := lag) (T := T) (k := k)
    have tn := c15_next (K := K) (A := A) (B := B) (x := x) (lag := lag) (T := T) (k := k)
    rw [hp] at pn cn mn tn
    exact ⟨pn.trans q0, cn.trans q1, fun h => mn.trans (q2 h), fun h => tn.trans (q3 h)⟩
  · have hm2 : mi2 (cI K A B x lag T k) (hB K A B x lag T k) = m := hm.symm
    obtain ⟨q0, q1, q2, q3⟩ := calm2 (gN x) (cB K A B x lag T k) (cI K A B x lag T k) (hB K A B x lag T k) (hI K A B x lag T k) (eS_k H.hx H.hf H.hN H.hT hk) (cW_calm H hk hc) (by rw [hm2, hOg]; exact hmO)
    rw [hwa k] at q0 q3
    have pn := ph_next (B := B) H hk
    have cn := c0_next (K := K) (A := A) (B := B) (x := x) (lag := lag) (T := T) (k := k)
    have mn := c14_next (K := K) (A := A) (B := B) (x := x) (lag := lag) (T := T) (k := k)
    have tn := c15_next (K := K) (A := A) (B := B) (x := x) (lag := lag) (T := T) (k := k)
    rw [hp] at pn cn mn tn
    exact ⟨pn.trans q0, cn.trans q1, mn.trans (q2.trans hm2), fun h => tn.trans (q3 h)⟩
  · obtain ⟨q1, q2, q3⟩ := calm3 (gN x) (cB K A B x lag T k) (cI K A B x lag T k) (hB K A B x lag T k) (hI K A B x lag T k) (eS_k H.hx H.hf H.hN H.hT hk) (cW_calm H hk hc)
    have pn := ph_next (B := B) H hk
    have cn := c0_next (K := K) (A := A) (B := B) (x := x) (lag := lag) (T := T) (k := k)
    have tn := c15_next (K := K) (A := A) (B := B) (x := x) (lag := lag) (T := T) (k := k)
    rw [hp] at pn cn tn
    refine ⟨fun h => ?_, fun h hcl => ?_⟩
    · have lo : loB (gN x) (cI K A B x lag T k) = true := by unfold loB; rw [hOg]; exact decide_eq_true h
      obtain ⟨a1, a2⟩ := q2 lo
      rw [lo, cond_true] at q1
      exact ⟨pn.trans a1, cn.trans q1, tn.trans a2⟩
    · have lo : loB (gN x) (cI K A B x lag T k) = false := by unfold loB; rw [hOg]; exact decide_eq_false h
      have hcl' : clB (hB K A B x lag T k) = false := hcl
      have cc : ccB (gN x) (cB K A B x lag T k) (hB K A B x lag T k) (hI K A B x lag T k) = false := by unfold ccB; rw [hcl']; rfl
      rw [lo, cc, hcl'] at q1
      exact ⟨pn.trans (q3 lo hcl'), cn.trans q1⟩
  · obtain ⟨d0, d1, -, -⟩ := drv_ph (B := B) H (show r < N by omega)
    rw [h2] at d0 d1
    exact ⟨(back_iff H (i := 0) (by omega) k).2 ⟨r, hr, d0⟩, (back_iff H (i := 1) (by omega) k).2 ⟨r, hr, d1⟩⟩
/-- What a moment shows: no cause; nothing fired; the path is closed if it has been wanted for long enough. -/
theorem calm_moment (H : CalmH K A x lag f T len N L O) (hk : k < N) :
    pI K A B (nOf (gsL (guN x))) T (pN K A B (nOf (gsL (guN x))) lag T k) 1 = 0 ∧ pA K A B (nOf (gsL (guN x))) T (pN K A B (nOf (gsL (guN x))) lag T k) 3 = false ∧ (O + L + 2 < wnK T (k + 1) → pQ K A B (nOf (gsL (guN x))) lag T (pN K A B (nOf (gsL (guN x))) lag T k) = true) := by
  have S := calm_s (B := B) H
  have d3 : ∀ r, r < N → drv K A B (nOf (gsL (guN x))) lag T r 3 = false := fun r hr => by
    obtain ⟨-, -, -, d⟩ := drv_ph (B := B) H hr
    rw [d]
    have := ca_ne5 S (k := r + 1) (by omega)
    exact beq_eq_false_iff_ne.2 this
  refine ⟨(ca_inv S (k + 1) (by omega)).hca, d3 k hk, fun hw => ?_⟩
  obtain ⟨hLk, hp⟩ := wn_driven S hk hw
  obtain ⟨d0, d1, d2, -⟩ := drv_ph (B := B) H (show k - L < N by omega)
  have hlo := H.hLO
  have sh : ∀ i, i < 3 → drv K A B (nOf (gsL (guN x))) lag T (k - L) i = true → shu K A B (nOf (gsL (guN x))) lag T (k + 1) i = true := fun i hi hd => (shu_lag K A B _ lag T L H.hL (by omega) hi (no_sk H i).1 (no_sk H i).2 (k + 1)).2 ⟨k - L, by omega, hd⟩
  have fz : fir K A B (nOf (gsL (guN x))) lag T (k + 1) = false := by
    have key : ∀ j, j ≤ k + 1 → fir K A B (nOf (gsL (guN x))) lag T j = false := by
      intro j
      induction j with
      | zero => intro _; rfl
      | succ j ih => intro hj; rw [fir_next, ih (by omega), d3 j (by omega)]; rfl
    exact key _ (Nat.le_refl _)
  rw [pQ_shu, fz]
  rcases hp with h | h
  · rw [h] at d1 d2
    rw [sh 1 (by omega) d1, sh 2 (by omega) d2]
    cases shu K A B (nOf (gsL (guN x))) lag T (k + 1) 0 <;> rfl
  · rw [h] at d0 d1
    rw [sh 1 (by omega) d1, sh 0 (by omega) d0]; rfl
end
end Go.Proofs.Ytgiinciclnekjaa

/-
  The law ProtectWelds: no condition holds; no marks; no crash.
-/
set_option linter.unusedSimpArgs false
set_option linter.unusedVariables false
namespace Go.Proofs.Ytgiinciclnekjaa
open Sx Go.RowKit
section
variable {K A : Nat} {x : Nat → Int} {lag : Int} {T : Nat → Value} {N k : Nat}
theorem w_now (hK : K = 0 ∨ K = 3 ∨ K = 7) (hT : ∀ o, o < N * 31 → T o = WV x o) (hk : k < N) (hc : ∀ i, i < 3 → cbW K A x lag T k (1 + i) = false) (hcu : -50000 ≤ wN x k 2 ∧ wN x k 2 ≤ 100000) {c : Nat} (h7 : c < 7) : nowB (gX x) (cbW K A x lag T k) (hbW K A x lag T k) (hiW K A x lag T k) c = false := by
  have vt := fun q (hq : q < 5) => w_vote (A := A) (lag := lag) hK hT hk (c := fun i => cbW K A x lag T k (1 + i)) hc hq
  have ok := fun q (hq : q < 5) => (vt q hq).1
  have g3 : IntKind.i64.wrap (0 - gX x 3) = -50000 := by rw [gX_at (by omega)]; rfl
  unfold nowB hoR ho6
  match c, h7 with
  | 0, _ =>
    show (bif oQ _ _ _ _ 0 then decide (hQ _ _ _ _ 0 > gX x 0) else false) = false
    rw [ok 0 (by omega), (vt 0 (by omega)).2.2, cond_true, gX_at (by omega)]; rfl
  | 1, _ =>
    show (bif oQ _ _ _ _ 1 then decide (lQ _ _ _ _ 1 < gX x 1) else false) = false
    rw [ok 1 (by omega), (vt 1 (by omega)).2.1, cond_true, gX_at (by omega)]; rfl
  | 2, _ =>
    show (bif oQ _ _ _ _ 2 then decide (hQ _ _ _ _ 2 > gX x 2) else false) = false
    rw [ok 2 (by omega), (vt 2 (by omega)).2.2, cond_true, gX_at (by omega)]
    refine decide_eq_false ?_
    show ¬ wN x k 2 > (100000 : Int)
    omega
  | 3, _ =>
    show (bif oQ _ _ _ _ 2 then decide (lQ _ _ _ _ 2 < IntKind.i64.wrap (0 - gX x 3)) else false) = false
    rw [ok 2 (by omega), (vt 2 (by omega)).2.1, cond_true, g3]
    exact decide_eq_false (by omega)
  | 4, _ =>
    show (bif oQ _ _ _ _ 3 then decide (hQ _ _ _ _ 3 > gX x 4) else false) = false
    rw [ok 3 (by omega), (vt 3 (by omega)).2.2, cond_true, gX_at (by omega)]; rfl
  | 5, _ =>
    show (bif oQ _ _ _ _ 4 then decide (lQ _ _ _ _ 4 < gX x 5) else false) = false
    rw [ok 4 (by omega), (vt 4 (by omega)).2.1, cond_true, gX_at (by omega)]; rfl
  | 6, _ =>
    show noR (gX x) (hbW K A x lag T k) (hiW K A x lag T k) (fun i => cbW K A x lag T k (1 + i)) = false
    unfold noR
    rw [ok 0 (by omega), ok 1 (by omega), ok 2 (by omega), ok 3 (by omega), ok 4 (by omega)]; rfl
/-- Whether there is current. -/
theorem w_cu (hK : K = 0 ∨ K = 3 ∨ K = 7) (hT : ∀ o, o < N * 31 → T o = WV x o) (hk : k < N) (hc : ∀ i, i < 3 → cbW K A x lag T k (1 + i) = false) : cuB (gX x) (cbW K A x lag T k) (hbW K A x lag T k) (hiW K A x lag T k) = bif decide (wN x k 2 > 2000) then true else decide (wN x k 2 < -2000) := by
  have vt := w_vote (A := A) (lag := lag) hK hT hk (c := fun i => cbW K A x lag T k (1 + i)) hc (q := 2) (by omega)
  have g21 : IntKind.i64.wrap (0 - gX x 21) = -2000 := by rw [gX_at (by omega)]; rfl
  unfold cuB cuP
  rw [vt.1, vt.2.1, vt.2.2, g21, gX_at (by omega)]
  rfl
theorem w_link (hT : ∀ o, o < N * 31 → T o = WV x o) (hk : k < N) : eS (hiW K A x lag T k) = false ∧ lkB (gX x) (hiW K A x lag T k) = true := by
  have hp : posB (trI T (k * 31)) = true := by
    have := wrow_ok hT hk
    unfold truOk at this
    rw [Bool.and_eq_true] at this
    exact this.2
  refine ⟨sg_link hp, ?_⟩
  have e0 : (pN K A false (nOf (gsL (gW x))) lag T k).i.toNat = k := by rw [pN_i]; rfl
  have e1 : hiW K A x lag T k 27 = trI T (k * 31) 27 := by
    show trI T ((pN K A false (nOf (gsL (gW x))) lag T k).i.toNat * 31) 27 = _
    rw [e0]
  have e2 : hiW K A x lag T k 28 = trI T (k * 31) 28 := by
    show trI T ((pN K A false (nOf (gsL (gW x))) lag T k).i.toNat * 31) 28 = _
    rw [e0]
  have r1 : trI T (k * 31) 27 = 400000000 := by
    unfold trI
    rw [wrow_num hT hk (by omega) (by omega) (by omega)]; rfl
  have r2 : trI T (k * 31) 28 = 400000000 := by
    unfold trI
    rw [wrow_num hT hk (by omega) (by omega) (by omega)]; rfl
  unfold lkB
  rw [e1, e2, r1, r2, gX_at (by omega)]
  show decide (IntKind.i64.wrap (400000000 * 65536) ≥ IntKind.i64.wrap (400000000 * 58982)) = true
  decide
theorem w_crash (hK : K = 0 ∨ K = 3 ∨ K = 7) (hT : ∀ o, o < N * 31 → T o = WV x o) (hk : k < N) : cn3 (hbW K A x lag T k) 18 < 2 ∧ cn3 (hbW K A x lag T k) 21 < 2 := by
  have t1 : trB T (k * 31) 25 = false := by
    unfold trB
    rw [wrow_bool hT hk (Or.inl rfl)]; rfl
  have t2 : trB T (k * 31) 26 = false := by
    unfold trB
    rw [wrow_bool hT hk (Or.inr (Or.inl rfl))]; rfl
  have k1 : ∀ i, i < 3 → hbW K A x lag T k (18 + i) = false := fun i hi => by
    have := (sg_crash (K := K) (A := A) (B := false) (n := nOf (gsL (gW x))) (lag := lag) (T := T) (k := k) i hi).1
    rw [t1, (w_ch hK i).2.2.1] at this; exact this
  have k2 : ∀ i, i < 3 → hbW K A x lag T k (21 + i) = false := fun i hi => by
    have := (sg_crash (K := K) (A := A) (B := false) (n := nOf (gsL (gW x))) (lag := lag) (T := T) (k := k) i hi).2
    rw [t2, (w_ch hK i).2.2.1] at this; exact this
  exact ⟨cn3_one (Or.inl (k1 0 (by omega))) (Or.inl (k1 0 (by omega))) (Or.inl (k1 1 (by omega))), cn3_one (Or.inl (k2 0 (by omega))) (Or.inl (k2 0 (by omega))) (Or.inl (k2 1 (by omega)))⟩
theorem w_want (hT : ∀ o, o < N * 31 → T o = WV x o) (hk : k < N) : hbW K A x lag T k 29 = decide ((k : Int) < nW x) := by
  have e : trB T (k * 31) 29 = decide ((k : Int) < nW x) := by
    unfold trB
    rw [wrow_bool hT hk (Or.inr (Or.inr (Or.inl rfl)))]; rfl
  unfold hbW
  rw [sg_want]
  exact e
theorem w_back (hK : K = 0 ∨ K = 3 ∨ K = 7) {i : Nat} (hi : i < 3) : hbW K A x lag T k (24 + i) = shu K A false (nOf (gsL (gW x))) lag T k i := by
  unfold hbW
  exact sg_back _ hi (by omega)
end
end Go.Proofs.Ytgiinciclnekjaa

/-
  The law ProtectWelds: the machine's phases.
-/
set_option linter.unusedSimpArgs false
set_option linter.unusedVariables false
namespace Go.Proofs.Ytgiinciclnekjaa
open Sx Go.RowKit
structure WdH (K A : Nat) (x : Nat → Int) (lag : Int) (T : Nat → Value) (N n o L : Nat) : Prop where
  hK : K = 0 ∨ K = 3 ∨ K = 7
  hT : ∀ q, q < N * 31 → T q = WV x q
  hn : nW x = n
  ho : oW x = o
  hL : lag = L
  h3 : 3 ≤ n
  hLo : L < o ∧ o ≤ 8
  hN : n ≤ N ∧ N ≤ 80
  hcu : ∀ k, k < N → -50000 ≤ wN x k 2
section
variable {K A : Nat} {x : Nat → Int} {lag : Int} {T : Nat → Value} {N n o L k : Nat}
noncomputable def phW (K A : Nat) (x : Nat → Int) (lag : Int) (T : Nat → Value) (k : Nat) : Int := (pN K A false (nOf (gsL (gW x))) lag T k).p
theorem cbW_next (k i : Nat) (hi : i < 3) : cbW K A x lag T (k + 1) (1 + i) = nwB (2 + i) (phW K A x lag T k) (gX x) (cbW K A x lag T k) (ciW K A x lag T k) (hbW K A x lag T k) (hiW K A x lag T k) := by
  match i, hi with
  | 0, _ => rfl
  | 1, _ => rfl
  | 2, _ => rfl
theorem phW_next (k : Nat) : phW K A x lag T (k + 1) = nwI 0 (phW K A x lag T k) (gX x) (cbW K A x lag T k) (ciW K A x lag T k) (hbW K A x lag T k) (hiW K A x lag T k) := rfl
theorem c0W (k : Nat) : ciW K A x lag T (k + 1) 0 = nwI 1 (phW K A x lag T k) (gX x) (cbW K A x lag T k) (ciW K A x lag T k) (hbW K A x lag T k) (hiW K A x lag T k) := rfl
theorem c14W (k : Nat) : ciW K A x lag T (k + 1) 14 = nwI 15 (phW K A x lag T k) (gX x) (cbW K A x lag T k) (ciW K A x lag T k) (hbW K A x lag T k) (hiW K A x lag T k) := rfl
theorem c15W (k : Nat) : ciW K A x lag T (k + 1) 15 = nwI 16 (phW K A x lag T k) (gX x) (cbW K A x lag T k) (ciW K A x lag T k) (hbW K A x lag T k) (hiW K A x lag T k) := rfl
theorem w_marks (H : WdH K A x lag T N n o L) : ∀ k, k ≤ N → ∀ i, i < 3 → cbW K A x lag T k (1 + i) = false := by
  intro k
  induction k with
  | zero =>
    intro _ i hi
    match i, hi with
    | 0, _ => rfl
    | 1, _ => rfl
    | 2, _ => rfl
  | succ k ih =>
    intro hk i hi
    rw [cbW_next k i hi]
    have hb := bads_at (gX x) (cbW K A x lag T k) (ciW K A x lag T k) (hbW K A x lag T k) (hiW K A x lag T k) (pN_p K A false (nOf (gsL (gW x))) lag T k)
    simp only [Prod.mk.injEq] at hb
    have ei : nwB (2 + i) (phW K A x lag T k) (gX x) (cbW K A x lag T k) (ciW K A x lag T k) (hbW K A x lag T k) (hiW K A x lag T k) = bdN (gX x) (cbW K A x lag T k) (ciW K A x lag T k) (hbW K A x lag T k) (hiW K A x lag T k) i := by
      match i, hi with
      | 0, _ => exact hb.1
      | 1, _ => exact hb.2.1
      | 2, _ => exact hb.2.2
    have na := w_apart (A := A) (lag := lag) H.hK H.hT (show k < N by omega) (c := fun i => cbW K A x lag T k (1 + i)) hi
    rw [ei]
    unfold bdN awN
    rw [(w_link H.hT (show k < N by omega)).1, ih (by omega) i hi, na]
    simp only [cond_false]
    rw [gX_at (by omega)]; rfl
theorem w_cur (H : WdH K A x lag T N n o L) {k : Nat} (hk : k < N) : -50000 ≤ wN x k 2 ∧ wN x k 2 ≤ 100000 := by
  refine ⟨H.hcu k hk, ?_⟩
  have c := cu_in x
  show (bif decide ((k : Int) ≥ nW x) then (IntKind.i64.wrap (x 4)).tmod 100001 else 10000) ≤ 100000
  cases decide ((k : Int) ≥ nW x) <;> simp only [cond_true, cond_false] <;> omega
theorem w_cW (H : WdH K A x lag T N n o L) (hk : k < N) (h0 : ciW K A x lag T k 0 = 0) : cW (gX x) (cbW K A x lag T k) (ciW K A x lag T k) (hbW K A x lag T k) (hiW K A x lag T k) = 0 := by
  have nc := w_crash (A := A) (lag := lag) H.hK H.hT hk
  refine cW_zero _ _ _ _ _ (fun i hi => w_now H.hK H.hT hk (w_marks H k (by omega)) (w_cur H hk) hi) (fun i hi => ?_) h0 nc.1 nc.2
  rw [gX_at (by omega)]
  match i, hi with
  | 0, _ => show (1 : Int) ≤ 3; decide
  | 1, _ => show (1 : Int) ≤ 3; decide
  | 2, _ => show (1 : Int) ≤ 3; decide
  | 3, _ => show (1 : Int) ≤ 3; decide
  | 4, _ => show (1 : Int) ≤ 3; decide
  | 5, _ => show (1 : Int) ≤ 3; decide
  | 6, _ => show (1 : Int) ≤ 3; decide
theorem drvW (H : WdH K A x lag T N n o L) (hk : k < N) : drv K A false (nOf (gsL (gW x))) lag T k 0 = dr0 (phW K A x lag T (k + 1)) ∧ drv K A false (nOf (gsL (gW x))) lag T k 1 = dr1 (phW K A x lag T (k + 1)) ∧ drv K A false (nOf (gsL (gW x))) lag T k 2 = dr2 (phW K A x lag T (k + 1)) ∧ drv K A false (nOf (gsL (gW x))) lag T k 3 = (phW K A x lag T (k + 1) == 5) :=
  acts_ph (gX x) (cbW K A x lag T k) (ciW K A x lag T k) (hbW K A x lag T k) (hiW K A x lag T k) (pN_p K A false (nOf (gsL (gW x))) lag T k) (w_link H.hT hk).1
/-- What was driven a lag ago is shut. -/
theorem shu_on (H : WdH K A x lag T N n o L) {i : Nat} (hi : i < 3) {k : Nat} (hk : L ≤ k) (hd : drv K A false (nOf (gsL (gW x))) lag T (k - L) i = true) : shu K A false (nOf (gsL (gW x))) lag T (k + 1) i = true := by
  have hlo := H.hLo
  have hL := H.hL
  rw [shu_next K A false _ lag T ⟨by omega, by omega⟩ hi, (w_ch H.hK i).2.2.2.2, old_lag K A false _ lag T L hL (by omega) hk hi, hd]; rfl
theorem weld_s (H : WdH K A x lag T N n o L) : WeldS n o L N (phW K A x lag T) (fun k => ciW K A x lag T k 0) (fun k => ciW K A x lag T k 14) (fun k => ciW K A x lag T k 15) (fun k => hbW K A x lag T k 24) (fun k => hbW K A x lag T k 25) := by
  have hOg : gX x 20 = o := (gX_at (by omega)).trans H.ho
  have hN := H.hN
  have wt : ∀ k, k < N → hbW K A x lag T k 29 = decide (k < n) := fun k hk => by
    rw [w_want H.hT hk, H.hn]
    exact decide_eq_decide.2 Int.ofNat_lt
  refine ⟨H.h3, H.hLo, H.hN, rfl, rfl, ?_, fun k hk hc hp hkn => ?_, fun k hk hc hp m hm hmO => ?_, fun k hk hc hp hlt => ?_, fun k hk h2 hkn hr => ?_⟩
  · have h3 := H.h3
    obtain ⟨q0, q1⟩ := calm0 (gX x) (cbW K A x lag T 0) (ciW K A x lag T 0) (hbW K A x lag T 0) (hiW K A x lag T 0) (w_link H.hT (by omega)).1 (w_cW H (by omega) rfl) (clB_no fun i hi => by
      rw [w_back H.hK hi]
      match i, hi with
      | 0, _ => rfl
      | 1, _ => rfl
      | 2, _ => rfl)
    rw [wt 0 (by omega), decide_eq_true (show 0 < n by omega)] at q0
    have pn := phW_next (K := K) (A := A) (x := x) (lag := lag) (T := T) 0
    have cn := c0W (K := K) (A := A) (x := x) (lag := lag) (T := T) 0
    have p0 : phW K A x lag T 0 = 0 := rfl
    rw [p0] at pn cn
    exact ⟨pn.trans q0, cn.trans q1⟩
  · obtain ⟨q0, q1, q2, q3⟩ := calm1 (gX x) (cbW K A x lag T k) (ciW K A x lag T k) (hbW K A x lag T k) (hiW K A x lag T k) (w_link H.hT hk).1 (w_cW H hk hc) (w_link H.hT hk).2
    have hw : hbW K A x lag T k 29 = true := (wt k hk).trans (decide_eq_true hkn)
    rw [hw, cond_true] at q0
    have pn := phW_next (K := K) (A := A) (x := x) (lag := lag) (T := T) k
    have cn := c0W (K := K) (A := A) (x := x) (lag := lag) (T := T) k
    have mn := c14W (K := K) (A := A) (x := x) (lag := lag) (T := T) k
    rw [hp] at pn cn mn
    exact ⟨pn.trans q0, cn.trans q1, mn.trans (q2 hw)⟩
  · have hm2 : mi2 (ciW K A x lag T k) (hbW K A x lag T k) = m := hm.symm
    obtain ⟨q0, q1, q2, q3⟩ := calm2 (gX x) (cbW K A x lag T k) (ciW K A x lag T k) (hbW K A x lag T k) (hiW K A x lag T k) (w_link H.hT hk).1 (w_cW H hk hc) (by rw [hm2, hOg]; exact hmO)
    rw [wt k hk] at q0 q3
    have pn := phW_next (K := K) (A := A) (x := x) (lag := lag) (T := T) k
    have cn := c0W (K := K) (A := A) (x := x) (lag := lag) (T := T) k
    have mn := c14W (K := K) (A := A) (x := x) (lag := lag) (T := T) k
    have tn := c15W (K := K) (A := A) (x := x) (lag := lag) (T := T) k
    rw [hp] at pn cn mn tn
    refine ⟨pn.trans (q0.trans ?_), cn.trans q1, mn.trans (q2.trans hm2), fun h => tn.trans (q3 (decide_eq_false h))⟩
    by_cases h : k < n
    · rw [if_pos h, decide_eq_true h]; rfl
    · rw [if_neg h, decide_eq_false h]; rfl
  · obtain ⟨q1, q2, -⟩ := calm3 (gX x) (cbW K A x lag T k) (ciW K A x lag T k) (hbW K A x lag T k) (hiW K A x lag T k) (w_link H.hT hk).1 (w_cW H hk hc)
    have pn := phW_next (K := K) (A := A) (x := x) (lag := lag) (T := T) k
    have cn := c0W (K := K) (A := A) (x := x) (lag := lag) (T := T) k
    have tn := c15W (K := K) (A := A) (x := x) (lag := lag) (T := T) k
    rw [hp] at pn cn tn
    have lo : loB (gX x) (ciW K A x lag T k) = true := by unfold loB; rw [hOg]; exact decide_eq_true hlt
    obtain ⟨a1, a2⟩ := q2 lo
    rw [lo, cond_true] at q1
    exact ⟨pn.trans a1, cn.trans q1, tn.trans a2⟩
  · obtain ⟨j, rfl⟩ : ∃ j, k = j + 1 := ⟨k - 1, by omega⟩
    have e2 := hr (j - L + 1) (by omega) (by omega)
    obtain ⟨d0, d1, -, -⟩ := drvW H (show j - L < N by omega)
    rw [e2] at d0 d1
    exact ⟨(w_back H.hK (i := 0) (by omega)).trans (shu_on H (by omega) (by omega) d0), (w_back H.hK (i := 1) (by omega)).trans (shu_on H (by omega) (by omega) d1)⟩
end
end Go.Proofs.Ytgiinciclnekjaa
