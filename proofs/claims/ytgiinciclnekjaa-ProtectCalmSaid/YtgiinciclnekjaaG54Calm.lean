/-
  A calm life in plain numbers: phases, counters, what is wanted, what the contactors report.
-/
import Derived.Test.YtgiinciclnekjaaG53Calm
import Derived.Test.YtgiinciclnekjaaG52Calm
import Derived.KernelRfl
set_option linter.unusedSimpArgs false
set_option linter.unusedVariables false
namespace Go.Proofs.Ytgiinciclnekjaa
open Sx Go.RowKit
section
variable {N L O : Nat} {ph ca mi ti : Nat → Int} {wa cl b0 b1 : Nat → Bool} {wn : Nat → Nat}
structure CalmS (N L O : Nat) (ph ca mi ti : Nat → Int) (wa cl b0 b1 : Nat → Bool) (wn : Nat → Nat) : Prop where
  h80 : N ≤ 80
  hLO : L < O ∧ O ≤ 8
  p0 : ph 0 = 0
  c0 : ca 0 = 0
  w0 : wn 0 = 0
  wN : ∀ k, wn (k + 1) = bif wa k then wn k + 1 else 0
  s0 : ∀ k, k < N → ca k = 0 → ph k = 0 → cl k = false → ph (k + 1) = (bif wa k then 1 else 0) ∧ ca (k + 1) = 0
  s1 : ∀ k, k < N → ca k = 0 → ph k = 1 → ph (k + 1) = (bif wa k then 2 else 3) ∧ ca (k + 1) = 0 ∧ (wa k = true → mi (k + 1) = 0) ∧ (wa k = false → ti (k + 1) = 0)
  s2 : ∀ k, k < N → ca k = 0 → ph k = 2 → ∀ m, m = (bif !b0 k then IntKind.i64.wrap (mi k + 1) else bif !b1 k then IntKind.i64.wrap (mi k + 1) else 0) → m ≤ O → ph (k + 1) = (bif wa k then 2 else 3) ∧ ca (k + 1) = 0 ∧ mi (k + 1) = m ∧ (wa k = false → ti (k + 1) = 0)
  s3 : ∀ k, k < N → ca k = 0 → ph k = 3 → (IntKind.i64.wrap (ti k + 1) < O → ph (k + 1) = 3 ∧ ca (k + 1) = 0 ∧ ti (k + 1) = IntKind.i64.wrap (ti k + 1)) ∧ (¬ IntKind.i64.wrap (ti k + 1) < O → cl k = false → ph (k + 1) = 0 ∧ ca (k + 1) = 0)
  hcl : ∀ k, k < N → (∀ r, r + L + 1 = k → ph (r + 1) = 0 ∨ ph (r + 1) = 3) → cl k = false
  hbk : ∀ k, k < N → ∀ r, r + L + 1 = k → ph (r + 1) = 2 → b0 k = true ∧ b1 k = true
/-- What holds ahead of step k. -/
structure CaInv (L O : Nat) (ph ca mi ti : Nat → Int) (wn : Nat → Nat) (k : Nat) : Prop where
  hca : ca k = 0
  hph : ph k = 0 ∨ ph k = 1 ∨ ph k = 2 ∨ ph k = 3
  p0 : ph k = 0 → wn k ≤ O ∧ ∀ r, r < k → k ≤ r + L + 1 → ph (r + 1) = 0 ∨ ph (r + 1) = 3
  p2 : ph k = 2 → ∃ M : Nat, mi k = M ∧ M ≤ L ∧ M < k ∧ ∀ r, r < k → k ≤ r + 1 + M → ph (r + 1) = 2
  p3 : ph k = 3 → ∃ t : Nat, ti k = t ∧ t < O ∧ t < k ∧ wn k ≤ t ∧ ∀ r, r < k → k ≤ r + 1 + t → ph (r + 1) = 3
theorem ca_next (H : CalmS N L O ph ca mi ti wa cl b0 b1 wn) {k : Nat} (hk : k < N) (I : CaInv L O ph ca mi ti wn k) : CaInv L O ph ca mi ti wn (k + 1) := by
  have hlo := H.hLO
  have h80 := H.h80
  have wN := H.wN k
  rcases I.hph with h | h | h | h
  · obtain ⟨w0, off⟩ := I.p0 h
    have hcl := H.hcl k hk fun r hr => off r (by omega) (by omega)
    obtain ⟨pn, c0⟩ := H.s0 k hk I.hca h hcl
    cases hw : wa k with
    | true =>
      rw [hw, cond_true] at pn
      exact ⟨c0, by omega, fun e => by omega, fun e => by omega, fun e => by omega⟩
    | false =>
      rw [hw, cond_false] at pn
      rw [hw, cond_false] at wN
      refine ⟨c0, by omega, fun _ => ⟨by omega, fun r h1 h2 => ?_⟩, fun e => by omega, fun e => by omega⟩
      rcases Nat.eq_or_lt_of_le (Nat.le_of_lt_succ h1) with e | e
      · subst e; exact Or.inl pn
      · exact off r e (by omega)
  · obtain ⟨pn, c0, q2, q3⟩ := H.s1 k hk I.hca h
    cases hw : wa k with
    | true =>
      rw [hw, cond_true] at pn
      refine ⟨c0, by omega, fun e => by omega, fun _ => ⟨0, q2 hw, by omega, by omega, fun r h1 h2 => ?_⟩, fun e => by omega⟩
      obtain rfl : r = k := by omega
      exact pn
    | false =>
      rw [hw, cond_false] at pn
      rw [hw, cond_false] at wN
      refine ⟨c0, by omega, fun e => by omega, fun e => by omega, fun _ => ⟨0, q3 hw, by omega, by omega, by omega, fun r h1 h2 => ?_⟩⟩
      obtain rfl : r = k := by omega
      exact pn
  · obtain ⟨M, m1, m2, m3, m4⟩ := I.p2 h
    have hmi : ∃ M' : Nat, (bif !b0 k then IntKind.i64.wrap (mi k + 1) else bif !b1 k then IntKind.i64.wrap (mi k + 1) else 0) = (M' : Int) ∧ M' ≤ L ∧ (M' = 0 ∨ M' = M + 1) := by
      by_cases hML : M = L
      · have e2 := m4 (k - 1 - L) (by omega) (by omega)
        obtain ⟨e0, e1⟩ := H.hbk k hk (k - 1 - L) (by omega) e2
        rw [e0, e1]
        exact ⟨0, rfl, by omega, Or.inl rfl⟩
      · have e : IntKind.i64.wrap (mi k + 1) = ((M + 1 : Nat) : Int) := by rw [m1, w64 (by omega)]; omega
        cases b0 k with
        | false => exact ⟨M + 1, e, by omega, Or.inr rfl⟩
        | true =>
          cases b1 k with
          | false => exact ⟨M + 1, e, by omega, Or.inr rfl⟩
          | true => exact ⟨0, rfl, by omega, Or.inl rfl⟩
    obtain ⟨M', n1, n2, n3⟩ := hmi
    obtain ⟨pn, c0, q2, q3⟩ := H.s2 k hk I.hca h _ n1.symm (by omega)
    cases hw : wa k with
    | true =>
      rw [hw, cond_true] at pn
      refine ⟨c0, by omega, fun e => by omega, fun _ => ⟨M', q2, n2, by omega, fun r h1 h2 => ?_⟩, fun e => by omega⟩
      rcases Nat.eq_or_lt_of_le (Nat.le_of_lt_succ h1) with e | e
      · subst e; exact pn
      · exact m4 r e (by omega)
    | false =>
      rw [hw, cond_false] at pn
      rw [hw, cond_false] at wN
      refine ⟨c0, by omega, fun e => by omega, fun e => by omega, fun _ => ⟨0, q3 hw, by omega, by omega, by omega, fun r h1 h2 => ?_⟩⟩
      obtain rfl : r = k := by omega
      exact pn
  · obtain ⟨t, t1, t2, t3, t4, t5⟩ := I.p3 h
    obtain ⟨q1, q2⟩ := H.s3 k hk I.hca h
    have e : IntKind.i64.wrap (ti k + 1) = ((t + 1 : Nat) : Int) := by rw [t1, w64 (by omega)]; omega
    have wn' : wn (k + 1) ≤ t + 1 := by rw [wN]; cases wa k <;> simp only [cond_true, cond_false] <;> omega
    rw [e] at q1 q2
    by_cases ht : t + 1 < O
    · obtain ⟨pn, c0, a2⟩ := q1 (by omega)
      refine ⟨c0, by omega, fun e => by omega, fun e => by omega, fun _ => ⟨t + 1, a2, ht, by omega, wn', fun r h1 h2 => ?_⟩⟩
      rcases Nat.eq_or_lt_of_le (Nat.le_of_lt_succ h1) with e | e
      · subst e; exact pn
      · exact t5 r e (by omega)
    · have hcl := H.hcl k hk fun r hr => Or.inr (t5 r (by omega) (by omega))
      obtain ⟨pn, c0⟩ := q2 (by omega) hcl
      refine ⟨c0, by omega, fun _ => ⟨by omega, fun r h1 h2 => ?_⟩, fun e => by omega, fun e => by omega⟩
      rcases Nat.eq_or_lt_of_le (Nat.le_of_lt_succ h1) with e | e
      · subst e; exact Or.inl pn
      · exact Or.inr (t5 r e (by omega))
theorem ca_inv (H : CalmS N L O ph ca mi ti wa cl b0 b1 wn) : ∀ k, k ≤ N → CaInv L O ph ca mi ti wn k
  | 0, _ => ⟨H.c0, Or.inl H.p0, fun _ => ⟨by rw [H.w0]; omega, fun r hr => by omega⟩, fun h => (by rw [H.p0] at h; omega), fun h => (by rw [H.p0] at h; omega)⟩
  | k + 1, h => ca_next H h (ca_inv H k (by omega))
theorem wn_le (H : CalmS N L O ph ca mi ti wa cl b0 b1 wn) : ∀ k, wn k ≤ k
  | 0 => by rw [H.w0]; omega
  | k + 1 => by rw [H.wN]; have := wn_le H k; cases wa k <;> simp only [cond_true, cond_false] <;> omega
theorem wn_back (H : CalmS N L O ph ca mi ti wa cl b0 b1 wn) : ∀ j k, j ≤ k → wn k ≤ wn (k - j) + j
  | 0, k, _ => Nat.le_refl _
  | j + 1, 0, h => by omega
  | j + 1, k + 1, h => by
    have := wn_back H j k (by omega)
    rw [show k + 1 - (j + 1) = k - j by omega, H.wN]
    cases wa k <;> simp only [cond_true, cond_false] <;> omega
/-- Wanted for long enough: something is driven a lag ago. -/
theorem wn_driven (H : CalmS N L O ph ca mi ti wa cl b0 b1 wn) {k : Nat} (hk : k < N) (hw : O + L + 2 < wn (k + 1)) : L ≤ k ∧ (ph (k - L + 1) = 1 ∨ ph (k - L + 1) = 2) := by
  have hle := wn_le H (k + 1)
  have hbk := wn_back H L (k + 1) (by omega)
  refine ⟨by omega, ?_⟩
  have J := ca_inv H (k - L + 1) (by omega)
  rw [show k + 1 - L = k - L + 1 by omega] at hbk
  rcases J.hph with h | h | h | h
  · have := (J.p0 h).1; omega
  · exact Or.inl h
  · exact Or.inr h
  · obtain ⟨t, t1, t2, t3, t4, t5⟩ := J.p3 h; omega
theorem ca_ne5 (H : CalmS N L O ph ca mi ti wa cl b0 b1 wn) {k : Nat} (hk : k ≤ N) : ph k ≠ 5 := by
  have := (ca_inv H k hk).hph; omega
end
end Go.Proofs.Ytgiinciclnekjaa

/-
  A calm life: the machine never trips, and follows what is wanted.
-/
set_option linter.unusedSimpArgs false
set_option linter.unusedVariables false
namespace Go.Proofs.Ytgiinciclnekjaa
open Sx Go.RowKit
/-- What is given. -/
structure CalmH (K A : Nat) (x : Nat → Int) (lag : Int) (f T : Nat → Value) (len N L O : Nat) : Prop where
  hK : K = 0 ∨ K = 1 ∨ K = 2 ∨ K = 5
  hA : A < 3
  hx : LfOk x
  hf : ∀ j, j < len → All2 Lf.ok lsTk (elAt f 27 j)
  hN : N ≤ len
  h80 : N ≤ 80
  hT : ∀ o, o < N * 31 → T o = TV x f o
  hb : ∀ k, k < N → ∀ j, j < 6 → tkI f (k * 27) j ≤ 0
  hw : ∀ k, k < N → trBl (tkI f (k * 27)) 25 = false ∧ trBl (tkI f (k * 27)) 26 = false
  hl : ∀ k, k < N → trN (guN x) (tkI f (k * 27)) 27 = 400000000
  hL : lag = L
  hO : guN x 20 = O
  hLO : L < O ∧ O ≤ 8
section
variable {K A : Nat} {B : Bool} {lag : Int} {x : Nat → Int} {f T : Nat → Value} {len N L O k : Nat}
/-- The phase ahead of step k; whether it is wanted in step k; for how long it has been. -/
noncomputable def phK (K A : Nat) (B : Bool) (x : Nat → Int) (lag : Int) (T : Nat → Value) (k : Nat) : Int := (pN K A B (nOf (gsL (guN x))) lag T k).p
def waK (T : Nat → Value) (k : Nat) : Bool := trB T (k * 31) 29
def wnK (T : Nat → Value) : Nat → Nat
  | 0 => 0
  | k + 1 => bif waK T k then wnK T k + 1 else 0
theorem sg_want (n : Nat → Int) : bOf (sgK K A B n lag T k) 29 = waK T k := by
  have e0 : (pN K A B n lag T k).i.toNat = k := by rw [pN_i]; rfl
  have e : bOf (sgK K A B n lag T k) 29 = trB T ((pN K A B n lag T k).i.toNat * 31) 29 := rfl
  rw [e, e0]; rfl
theorem sg_back (n : Nat → Int) {i : Nat} (hi : i < 3) (hK : K ≠ 6) : bOf (sgK K A B n lag T k) (24 + i) = shu K A B n lag T k i := by
  have hb : baB K A i = false := by
    unfold baB
    rw [beq_ff.2 hK]; rfl
  have e : bOf (sgK K A B n lag T k) (24 + i) = bif baB K A i then B else shu K A B n lag T k i := by
    match i, hi with
    | 0, _ => rfl
    | 1, _ => rfl
    | 2, _ => rfl
  rw [e, hb]; rfl
theorem ph_next (H : CalmH K A x lag f T len N L O) (hk : k < N) : phK K A B x lag T (k + 1) = nwI 0 (phK K A B x lag T k) (gN x) (cB K A B x lag T k) (cI K A B x lag T k) (hB K A B x lag T k) (hI K A B x lag T k) := rfl
theorem c0_next : cI K A B x lag T (k + 1) 0 = nwI 1 (phK K A B x lag T k) (gN x) (cB K A B x lag T k) (cI K A B x lag T k) (hB K A B x lag T k) (hI K A B x lag T k) := rfl
theorem c14_next : cI K A B x lag T (k + 1) 14 = nwI 15 (phK K A B x lag T k) (gN x) (cB K A B x lag T k) (cI K A B x lag T k) (hB K A B x lag T k) (hI K A B x lag T k) := rfl
theorem c15_next : cI K A B x lag T (k + 1) 15 = nwI 16 (phK K A B x lag T k) (gN x) (cB K A B x lag T k) (cI K A B x lag T k) (hB K A B x lag T k) (hI K A B x lag T k) := rfl
theorem drv_ph (H : CalmH K A x lag f T len N L O) (hk : k < N) : drv K A B (nOf (gsL (guN x))) lag T k 0 = dr0 (phK K A B x lag T (k + 1)) ∧ drv K A B (nOf (gsL (guN x))) lag T k 1 = dr1 (phK K A B x lag T (k + 1)) ∧ drv K A B (nOf (gsL (guN x))) lag T k 2 = dr2 (phK K A B x lag T (k + 1)) ∧ drv K A B (nOf (gsL (guN x))) lag T k 3 = (phK K A B x lag T (k + 1) == 5) :=
  acts_ph (gN x) (cB K A B x lag T k) (cI K A B x lag T k) (hB K A B x lag T k) (hI K A B x lag T k) (pN_p K A B (nOf (gsL (guN x))) lag T k) (eS_k H.hx H.hf H.hN H.hT hk)
theorem no_sk (H : CalmH K A x lag f T len N L O) (i : Nat) : skB K A i = false ∧ weB K A i = false := by
  have h := H.hK
  unfold skB weB
  rw [beq_ff.2 (show K ≠ 4 by omega), beq_ff.2 (show K ≠ 3 by omega), beq_ff.2 (show K ≠ 7 by omega)]
  exact ⟨rfl, rfl⟩
/-- A contactor reports what was driven a lag ago. -/
theorem back_iff (H : CalmH K A x lag f T len N L O) {i : Nat} (hi : i < 3) (k : Nat) : hB K A B x lag T k (24 + i) = true ↔ ∃ r, r + L + 1 = k ∧ drv K A B (nOf (gsL (guN x))) lag T r i = true := by
  have h := H.hK
  have h2 := H.hLO
  unfold hB
  rw [sg_back _ hi (by omega)]
  exact shu_lag K A B _ lag T L H.hL (by omega) hi (no_sk H i).1 (no_sk H i).2 k
theorem link_full (H : CalmH K A x lag f T len N L O) (hk : k < N) : lkB (gN x) (hI K A B x lag T k) = true := by
  have e0 : (pN K A B (nOf (gsL (guN x))) lag T k).i.toNat = k := by rw [pN_i]; rfl
  have e1 : hI K A B x lag T k 27 = trI T (k * 31) 27 := by
    show trI T ((pN K A B (nOf (gsL (guN x))) lag T k).i.toNat * 31) 27 = _
    rw [e0]
  have e2 : hI K A B x lag T k 28 = trI T (k * 31) 28 := by
    show trI T ((pN K A B (nOf (gsL (guN x))) lag T k).i.toNat * 31) 28 = _
    rw [e0]
  have r1 : trI T (k * 31) 27 = 400000000 := by
    unfold trI
    rw [row_num H.hT hk (by omega) (by omega) (by omega)]
    exact H.hl k hk
  have r2 : trI T (k * 31) 28 = 400000000 := by
    unfold trI
    rw [row_num H.hT hk (by omega) (by omega) (by omega)]; rfl
  unfold lkB
  rw [e1, e2, r1, r2, gN_at (by omega)]
  show decide (IntKind.i64.wrap (400000000 * 65536) ≥ IntKind.i64.wrap (400000000 * 58982)) = true
  decide
theorem no_crash (H : CalmH K A x lag f T len N L O) (hk : k < N) : cn3 (hB K A B x lag T k) 18 < 2 ∧ cn3 (hB K A B x lag T k) 21 < 2 := by
  have w := H.hw k hk
  have t1 : trB T (k * 31) 25 = false := by
    unfold trB
    rw [row_bool H.hT hk (Or.inl rfl)]; exact w.1
  have t2 : trB T (k * 31) 26 = false := by
    unfold trB
    rw [row_bool H.hT hk (Or.inr (Or.inl rfl))]; exact w.2
  have key : ∀ {g : Nat → Bool}, (∀ i, i < 3 → g i = bif wiB K A i then B else false) → ∀ i j, i < 3 → j < 3 → i ≠ j → g i = false ∨ g j = false := by
    intro g hg i j hi hj hne
    cases hw : wiB K A i with
    | false => left; rw [hg i hi, hw]; rfl
    | true => right; rw [hg j hj, wi_one hw (Ne.symm hne)]; rfl
  have k1 := key (g := fun i => hB K A B x lag T k (18 + i)) fun i hi => by
    have := (sg_crash (K := K) (A := A) (B := B) (n := nOf (gsL (guN x))) (lag := lag) (T := T) (k := k) i hi).1
    rw [t1] at this; exact this
  have k2 := key (g := fun i => hB K A B x lag T k (21 + i)) fun i hi => by
    have := (sg_crash (K := K) (A := A) (B := B) (n := nOf (gsL (guN x))) (lag := lag) (T := T) (k := k) i hi).2
    rw [t2] at this; exact this
  exact ⟨cn3_one (k1 0 1 (by omega) (by omega) (by omega)) (k1 0 2 (by omega) (by omega) (by omega)) (k1 1 2 (by omega) (by omega) (by omega)), cn3_one (k2 0 1 (by omega) (by omega) (by omega)) (k2 0 2 (by omega) (by omega) (by omega)) (k2 1 2 (by omega) (by omega) (by omega))⟩
theorem cW_calm (H : CalmH K A x lag f T len N L O) (hk : k < N) (h0 : cI K A B x lag T k 0 = 0) : cW (gN x) (cB K A B x lag T k) (cI K A B x lag T k) (hB K A B x lag T k) (hI K A B x lag T k) = 0 := by
  have I := ma_inv (K := K) (A := A) (B := B) (lag := lag) H.hA H.hx H.hf H.hN H.h80 H.hT k (by omega)
  have nc := no_crash (B := B) H hk
  refine cW_zero _ _ _ _ _ (fun i hi => now_calm H.hA H.hx H.hf H.hN H.hT hk I.marks (H.hb k hk) hi) (fun i hi => ?_) h0 nc.1 nc.2
  rw [gN_at (by omega)]
  have := gu_deb H.hx hi
  omega
theorem not_closed (H : CalmH K A x lag f T len N L O) (hk : k < N) (ho : ∀ r, r + L + 1 = k → phK K A B x lag T (r + 1) = 0 ∨ phK K A B x lag T (r + 1) = 3) : clB (hB K A B x lag T k) = false := by
  refine clB_no fun i hi => ?_
  cases hb : hB K A B x lag T k (24 + i) with
  | false => rfl
  | true =>
    exfalso
    obtain ⟨r, hr, hd⟩ := (back_iff H hi k).1 hb
    obtain ⟨d0, d1, d2, -⟩ := drv_ph (B := B) H (show r < N by omega)
    have hz : ∀ X : Int, X = 0 ∨ X = 3 → dr0 X = false ∧ dr1 X = false ∧ dr2 X = false := fun X h => by rcases h with rfl | rfl <;> exact ⟨rfl, rfl, rfl⟩
    obtain ⟨z0, z1, z2⟩ := hz _ (ho r hr)
    rcases (show i = 0 ∨ i = 1 ∨ i = 2 by omega) with e | e | e
    · rw [e, d0, z0] at hd; exact Bool.noConfusion hd
    · rw [e, d1, z1] at hd; exact Bool.noConfusion hd
    · rw [e, d2, z2] at hd; exact Bool.noConfusion hd
theorem calm_s (H : CalmH K A x lag f T len N L O) : CalmS N L O (phK K A B x lag T) (fun k => cI K A B x lag T k 0) (fun k => cI K A B x lag T k 14) (fun k => cI K A B x lag T k 15) (waK T) (fun k => clB (hB K A B x lag T k)) (fun k => hB K A B x lag T k 24) (fun k => hB K A B x lag T k 25) (wnK T) := by
  have hOg : gN x 20 = O := (gN_at (by omega)).trans H.hO
  have hwa : ∀ k, hB K A B x lag T k 29 = waK T k := fun k => sg_want _
  refine ⟨H.h80, H.hLO, rfl, rfl, rfl, fun k => rfl, fun k hk hc hp hcl => ?_, fun k hk hc hp => ?_, fun k hk hc hp m hm hmO => ?_, fun k hk hc hp => ?_, fun k hk ho => not_closed H hk ho, fun k hk r hr h2 => ?_⟩
  · obtain ⟨q0, q1⟩ := calm0 (gN x) (cB K A B x lag T k) (cI K A B x lag T k) (hB K A B x lag T k) (hI K A B x lag T k) (eS_k H.hx H.hf H.hN H.hT hk) (cW_calm H hk hc) hcl
    rw [hwa k] at q0
    have pn := ph_next (B := B) H hk
    have cn := c0_next (K := K) (A := A) (B := B) (x := x) (lag := lag) (T := T) (k := k)
    rw [hp] at pn cn
    exact ⟨pn.trans q0, cn.trans q1⟩
  · obtain ⟨q0, q1, q2, q3⟩ := calm1 (gN x) (cB K A B x lag T k) (cI K A B x lag T k) (hB K A B x lag T k) (hI K A B x lag T k) (eS_k H.hx H.hf H.hN H.hT hk) (cW_calm H hk hc) (link_full H hk)
    rw [hwa k] at q0 q2 q3
    have pn := ph_next (B := B) H hk
    have cn := c0_next (K := K) (A := A) (B := B) (x := x) (lag := lag) (T := T) (k := k)
    have mn := c14_next (K := K) (A := A) (B := B) (x := x) (lag := lag) (T := T) (k := k)
    have tn := c15_next (K := K) (A := A) (B := B) (x := x) (lag := lag) (T := T) (k := k)
    rw [hp] at pn cn mn tn
    exact ⟨pn.trans q0, cn.trans q1, fun h => mn.trans (q2 h), fun h => tn.trans (q3 h)⟩
  · have hm2 : mi2 (cI K A B x lag T k) (hB K A B x lag T k) = m := hm.symm
    obtain ⟨q0, q1, q2, q3⟩ := calm2 (gN x) (cB K A B x lag T k) (cI K A B x lag T k) (hB K A B x lag T k) (hI K A B x lag T k) (eS_k H.hx H.hf H.hN H.hT hk) (cW_calm H hk hc) (by rw [hm2, hOg]; exact hmO)
    rw [hwa k] at q0 q3
    have pn := ph_next (B := B) H hk
    have cn := c0_next (K := K) (A := A) (B := B) (x := x) (lag := lag) (T := T) (k := k)
    have mn := c14_next (K := K) (A := A) (B := B) (x := x) (lag := lag) (T := T) (k := k)
    have tn := c15_next (K := K) (A := A) (B := B) (x := x) (lag := lag) (T := T) (k := k)
    rw [hp] at pn cn mn tn
    exact ⟨pn.trans q0, cn.trans q1, mn.trans (q2.trans hm2), fun h => tn.trans (q3 h)⟩
  · obtain ⟨q1, q2, q3⟩ := calm3 (gN x) (cB K A B x lag T k) (cI K A B x lag T k) (hB K A B x lag T k) (hI K A B x lag T k) (eS_k H.hx H.hf H.hN H.hT hk) (cW_calm H hk hc)
    have pn := ph_next (B := B) H hk
    have cn := c0_next (K := K) (A := A) (B := B) (x := x) (lag := lag) (T := T) (k := k)
    have tn := c15_next (K := K) (A := A) (B := B) (x := x) (lag := lag) (T := T) (k := k)
    rw [hp] at pn cn tn
    refine ⟨fun h => ?_, fun h hcl => ?_⟩
    · have lo : loB (gN x) (cI K A B x lag T k) = true := by unfold loB; rw [hOg]; exact decide_eq_true h
      obtain ⟨a1, a2⟩ := q2 lo
      rw [lo, cond_true] at q1
      exact ⟨pn.trans a1, cn.trans q1, tn.trans a2⟩
    · have lo : loB (gN x) (cI K A B x lag T k) = false := by unfold loB; rw [hOg]; exact decide_eq_false h
      have hcl' : clB (hB K A B x lag T k) = false := hcl
      have cc : ccB (gN x) (cB K A B x lag T k) (hB K A B x lag T k) (hI K A B x lag T k) = false := by unfold ccB; rw [hcl']; rfl
      rw [lo, cc, hcl'] at q1
      exact ⟨pn.trans (q3 lo hcl'), cn.trans q1⟩
  · obtain ⟨d0, d1, -, -⟩ := drv_ph (B := B) H (show r < N by omega)
    rw [h2] at d0 d1
    exact ⟨(back_iff H (i := 0) (by omega) k).2 ⟨r, hr, d0⟩, (back_iff H (i := 1) (by omega) k).2 ⟨r, hr, d1⟩⟩
/-- What a moment shows: no cause; nothing fired; the path is closed if it has been wanted for long enough. -/
theorem calm_moment (H : CalmH K A x lag f T len N L O) (hk : k < N) :
    pI K A B (nOf (gsL (guN x))) T (pN K A B (nOf (gsL (guN x))) lag T k) 1 = 0 ∧ pA K A B (nOf (gsL (guN x))) T (pN K A B (nOf (gsL (guN x))) lag T k) 3 = false ∧ (O + L + 2 < wnK T (k + 1) → pQ K A B (nOf (gsL (guN x))) lag T (pN K A B (nOf (gsL (guN x))) lag T k) = true) := by
  have S := calm_s (B := B) H
  have d3 : ∀ r, r < N → drv K A B (nOf (gsL (guN x))) lag T r 3 = false := fun r hr => by
    obtain ⟨-, -, -, d⟩ := drv_ph (B := B) H hr
    rw [d]
    have := ca_ne5 S (k := r + 1) (by omega)
    exact beq_eq_false_iff_ne.2 this
  refine ⟨(ca_inv S (k + 1) (by omega)).hca, d3 k hk, fun hw => ?_⟩
  obtain ⟨hLk, hp⟩ := wn_driven S hk hw
  obtain ⟨d0, d1, d2, -⟩ := drv_ph (B := B) H (show k - L < N by omega)
  have hlo := H.hLO
  have sh : ∀ i, i < 3 → drv K A B (nOf (gsL (guN x))) lag T (k - L) i = true → shu K A B (nOf (gsL (guN x))) lag T (k + 1) i = true := fun i hi hd => (shu_lag K A B _ lag T L H.hL (by omega) hi (no_sk H i).1 (no_sk H i).2 (k + 1)).2 ⟨k - L, by omega, hd⟩
  have fz : fir K A B (nOf (gsL (guN x))) lag T (k + 1) = false := by
    have key : ∀ j, j ≤ k + 1 → fir K A B (nOf (gsL (guN x))) lag T j = false := by
      intro j
      induction j with
      | zero => intro _; rfl
      | succ j ih => intro hj; rw [fir_next, ih (by omega), d3 j (by omega)]; rfl
    exact key _ (Nat.le_refl _)
  rw [pQ_shu, fz]
  rcases hp with h | h
  · rw [h] at d1 d2
    rw [sh 1 (by omega) d1, sh 2 (by omega) d2]
    cases shu K A B (nOf (gsL (guN x))) lag T (k + 1) 0 <;> rfl
  · rw [h] at d0 d1
    rw [sh 1 (by omega) d1, sh 0 (by omega) d0]; rfl
end
end Go.Proofs.Ytgiinciclnekjaa

/-
  A calm life's ticks: brought within the limits.
-/
set_option linter.unusedSimpArgs false
set_option linter.unusedVariables false
namespace Go.Proofs.Ytgiinciclnekjaa
open Sx Go.RowKit
/-- The ticks as the law makes them. -/
def fM (f : Nat → Value) (o : Nat) : Value := bif Nat.blt (o % 27) 6 then .int .i8 (tkM f (o / 27 * 27) (o % 27)) else bif Nat.beq (o % 27) 26 then .int .u8 (tkM f (o / 27 * 27) 26) else f o
def cut27 (t : Nat → Int) (j : Nat) : Int := bif Nat.blt j 27 then t j else 0
theorem trC_cut (g t : Nat → Int) : trC g t = trC g (cut27 t) := by kernel_rfl
theorem fM_at {f : Nat → Value} {k j : Nat} (hj : j < 27) : tkI (fM f) (k * 27) j = tkM f (k * 27) j := by
  unfold tkI fM
  rw [show (k * 27 + j) % 27 = j by omega, show (k * 27 + j) / 27 * 27 = k * 27 by omega]
  cases h : Nat.blt j 6 with
  | true => rfl
  | false =>
    cases h2 : Nat.beq j 26 with
    | true => obtain rfl := beq_iff'.1 h2; rfl
    | false =>
      unfold tkM
      rw [h, h2]; rfl
theorem tvL_M (x : Nat → Int) (f : Nat → Value) (k : Nat) : tvL x (fM f) (k * 27) = tvM x f (k * 27) := by
  have e : cut27 (tkI (fM f) (k * 27)) = cut27 (tkM f (k * 27)) := by
    funext j
    unfold cut27
    cases h : Nat.blt j 27 with
    | false => rfl
    | true => rw [cond_true, cond_true, fM_at (Nat.le_of_ble_eq_true h)]
  unfold tvL tvM
  rw [trC_cut _ (tkI (fM f) (k * 27)), trC_cut _ (tkM f (k * 27)), e]
theorem mm_le (y : Int) : mm false y 0 = if 0 < y then 0 else y := by
  unfold mm; rfl
theorem u8w {y : Int} (h : 0 ≤ y ∧ y ≤ 255) : IntKind.u8.wrap y = y := by
  simp [IntKind.wrap, IntKind.bits, IntKind.signed]; omega
theorem bv8 (b : BitVec 8) : 0 ≤ (b.toNat : Int) ∧ (b.toNat : Int) ≤ 255 := by
  have := b.isLt; omega
theorem fg_in (t : Nat → Int) (m : Int) : 0 ≤ fgI t m ∧ fgI t m ≤ 255 := by
  unfold fgI
  have := bv8 (BitVec.ofInt 8 (t 26) &&& BitVec.ofInt 8 m)
  rw [show IntKind.u8.bits = 8 from rfl, u8w this]
  exact this
theorem fg_two {t t' : Nat → Int} {m : Int} (ht : t' 26 = fgI t m) (m' : Int) (h : BitVec.ofInt 8 m &&& BitVec.ofInt 8 m' = 0#8) : fgI t' m' = 0 := by
  unfold fgI at ht ⊢
  rw [show IntKind.u8.bits = 8 from rfl] at ht ⊢
  have b := bv8 (BitVec.ofInt 8 (t 26) &&& BitVec.ofInt 8 m)
  rw [u8w b] at ht
  rw [ht, BitVec.ofInt_natCast, BitVec.ofNat_toNat, BitVec.setWidth_eq, BitVec.and_assoc, h, BitVec.and_zero]
  rfl
theorem all2_of {α β : Type} {R : α → β → Prop} : ∀ {l : List α} {m : List β}, l.length = m.length → (∀ (i : Nat) a b, l[i]? = some a → m[i]? = some b → R a b) → All2 R l m
  | [], [], _, _ => .nil
  | a :: l, b :: m, h, hr => .cons (hr 0 a b rfl rfl) (all2_of (by simpa using h) fun i a b h1 h2 => hr (i + 1) a b h1 h2)
  | [], _ :: _, h, _ => by simp at h
  | _ :: _, [], h, _ => by simp at h
section
variable {f : Nat → Value} {len : Nat}
theorem fM_ok (hf : ∀ j, j < len → All2 Lf.ok lsTk (elAt f 27 j)) : ∀ j, j < len → All2 Lf.ok lsTk (elAt (fM f) 27 j) := by
  intro j hj
  have tk := tk_ok (hf j hj)
  refine all2_of (by unfold elAt; rw [List.length_map, List.length_range]; rfl) fun i a b h1 h2 => ?_
  have hi : i < 27 := (List.getElem?_eq_some_iff.1 h1).1
  rw [elAt_get hi] at h2
  obtain rfl := Option.some.inj h2
  obtain ⟨b0, hb0, ok⟩ := all2_get (hf j hj) h1
  rw [elAt_get hi] at hb0
  obtain rfl := Option.some.inj hb0
  unfold fM
  rw [show (j * 27 + i) % 27 = i by omega, show (j * 27 + i) / 27 * 27 = j * 27 by omega]
  cases h : Nat.blt i 6 with
  | true =>
    have h6 : i < 6 := Nat.le_of_ble_eq_true h
    have ea : a = .i .i8 := by
      have e : lsTk[i]? = some (.i .i8) := by
        rcases (show i = 0 ∨ i = 1 ∨ i = 2 ∨ i = 3 ∨ i = 4 ∨ i = 5 by omega) with e | e | e | e | e | e <;> subst e <;> rfl
      rw [h1] at e; exact Option.some.inj e
    subst ea
    refine ⟨_, rfl, ?_⟩
    have t := tk.a i (by omega)
    have em : tkM f (j * 27) i = mm false (tkI f (j * 27) i) 0 := by unfold tkM; rw [h]; rfl
    simp only [Lit.wf, Bool.and_eq_true, decide_eq_true_eq]
    rw [em, mm_le]
    show -128 ≤ _ ∧ _ ≤ 127
    split <;> omega
  | false =>
    cases h2 : Nat.beq i 26 with
    | true =>
      obtain rfl := beq_iff'.1 h2
      have ea : a = .i .u8 := by
        have e : lsTk[26]? = some (.i .u8) := rfl
        rw [h1] at e; exact Option.some.inj e
      subst ea
      refine ⟨_, rfl, ?_⟩
      have em : tkM f (j * 27) 26 = fgI (tkI f (j * 27)) 12 := rfl
      simp only [Lit.wf, Bool.and_eq_true, decide_eq_true_eq]
      rw [em]
      exact fg_in _ _
    | false => exact ok
theorem fM_calm (k : Nat) : (∀ j, j < 6 → tkI (fM f) (k * 27) j ≤ 0) ∧ trBl (tkI (fM f) (k * 27)) 25 = false ∧ trBl (tkI (fM f) (k * 27)) 26 = false ∧ ∀ g, trN g (tkI (fM f) (k * 27)) 27 = 400000000 := by
  have e26 : tkI (fM f) (k * 27) 26 = fgI (tkI f (k * 27)) 12 := by rw [fM_at (by omega)]; rfl
  refine ⟨fun j hj => ?_, ?_, ?_, fun g => ?_⟩
  · rw [fM_at (by omega)]
    have em : tkM f (k * 27) j = mm false (tkI f (k * 27) j) 0 := by unfold tkM; rw [show Nat.blt j 6 = true from Nat.ble_eq_true_of_le hj]; rfl
    rw [em, mm_le]
    split <;> omega
  · show (fgI _ 1 == 1) = false
    rw [fg_two e26 1 (by decide)]; rfl
  · show (fgI _ 2 == 2) = false
    rw [fg_two e26 2 (by decide)]; rfl
  · show (bif fgI _ 48 == 48 then (0 : Int) else 400000000) = 400000000
    rw [fg_two e26 48 (by decide)]; rfl
end
end Go.Proofs.Ytgiinciclnekjaa

/-
  The law ProtectCalm: joined.
-/
set_option linter.unusedSimpArgs false
set_option linter.unusedVariables false
namespace Go.Proofs.Ytgiinciclnekjaa
open Sx Go.RowKit
theorem tvM_0 (x : Nat → Int) (f : Nat → Value) (k : Nat) : tvM x f (0 + k * 27) = tvL x (fM f) (0 + k * 27) := by rw [Nat.zero_add]; exact (tvL_M x f k).symm
section
variable {b : Nat → Bool} {x : Nat → Int} {len cap : Nat} {f : Nat → Value}
theorem open_ne (hx : LfOk x) : (guN x 20 != 0) = true := by
  have o := gu_open hx
  have h : guN x 20 ≠ 0 := by omega
  simpa using h
theorem clT_eq : clT b x len cap f = evS tbl wr5 caC clF.ntmps 300 [0, 4] 300 [.code (cdOf 12)] .normal (lwE 12 b x len cap f) := by unfold clT; rfl
theorem clR1_eq (v : FVal) : clR1 b x len cap f v = evC tbl wr5 caC clF.ntmps [] 300 (clS b x len cap f).body (clI1 b x len cap f v) := by unfold clR1; rfl
theorem clR_eq (v : FVal) : clR b x len cap f v = evC tbl wr5 caC clF.ntmps [] 300 (clS b x len cap f).body (clI b x len cap f v) := by unfold clR; rfl
theorem clT2_eq (v : FVal) : clT2 b x len cap f v = evS tbl wr5 caC clF.ntmps 300 [0, 4] 300 (clK b x len cap f) .normal (clI b x len cap f v) := by unfold clT2; rfl
theorem clR2_eq (kz : Bool) (v u : FVal) : clR2 b x len cap f kz v u = evC tbl wr5 caC clF.ntmps [] 300 (clS2 b x len cap f kz v).body (clI2 b x len cap f kz v u) := by unfold clR2; rfl
theorem clX_eq (kz : Bool) (v u : FVal) : clX b x len cap f kz v u = evS tbl wr5 caC clF.ntmps 300 [0, 4] 300 (clK2 b x len cap f kz v) .normal (clI2 b x len cap f kz v u) := by unfold clX; rfl
/-- Up to the second loop. -/
theorem cl_up (hx : LfOk x) (hkx : kdX x = false) (hf : ∀ j, j < len → All2 Lf.ok lsTk (elAt f 27 j)) (h0 : 0 < len) {Φ : SLeaf → Prop} (h : ∀ v N, TrEnd x len (fM f) v N → SegTo Try.prog clF.ntmps (clI b x len cap f v) (clK b x len cap f) .normal Φ) :
    SegTo Try.prog clF.ntmps (lwE 12 b x len cap f) [.code (cdOf 12)] .normal Φ := by
  have hA := fun v => cl_A b x len cap f v
  have hD : ∀ c ∈ [guN x 20 != 0, !kdX x], c = true := fun c hc => by
    simp only [List.mem_cons, List.not_mem_nil, or_false] at hc
    rcases hc with rfl | rfl
    · exact open_ne hx
    · rw [hkx]; rfl
  unfold clA clAX at hA
  simp only [Prod.mk.injEq] at hA
  have hUp := fun v => (hA v).1
  have hGo1 := fun v => (hA v).2.2.1
  have hGo := fun v => (hA v).2.2.2.1
  have hOut := fun v => (hA v).2.2.2.2
  clear hA
  obtain ⟨cs, y, hw, hg⟩ := selW_map (hUp (rvV clD1 (clS b x len cap f).st))
  simp only [Prod.mk.injEq] at hg
  obtain ⟨k1, k2, k3, k4, -, -, k7⟩ := hg
  have hat := selW_G hw (by rw [k1]; exact hD)
  obtain ⟨S, hS⟩ := Option.isSome_iff_exists.1 k2
  have hSe : clS b x len cap f = S := by unfold clS; rw [hw]; simp only [Option.map_some, Option.bind_some, hS, Option.getD_some]
  have hx := stpOf_at hS
  rw [← hSe, k3] at hx
  have hK : (clS b x len cap f).rest = clK b x len cap f := by unfold clK; rfl
  rw [hK] at hx
  refine (caC_seg clT_eq hat).then_ hx ?_
  refine seg_block ?_
  have fam1 : ∀ v, (clS b x len cap f).st.apps (famW v 0 clD1) = some (clI1 b x len cap f v) := fun v => by
    obtain ⟨cs, y, hw, hg⟩ := selW_map (hUp v)
    simp only [Prod.mk.injEq] at hg
    obtain ⟨I, hI⟩ := Option.isSome_iff_exists.1 hg.2.2.2.2.1
    unfold clI1
    rw [hI, Option.getD_some]
  have fam : ∀ v, (clS b x len cap f).st.apps (famW v 0 clD) = some (clI b x len cap f v) := fun v => by
    obtain ⟨cs, y, hw, hg⟩ := selW_map (hUp v)
    simp only [Prod.mk.injEq] at hg
    obtain ⟨I, hI⟩ := Option.isSome_iff_exists.1 hg.2.2.2.2.2.1
    unfold clI
    rw [hI, Option.getD_some]
  have hz0 : (rvV clD1 (clS b x len cap f).st).i 0 = (0 : Nat) := by rw [rvV_i, k7]; rfl
  refine SegTo.each (I := clI b x len cap f) (F := fun v => ∃ N, TrEnd x len (fM f) v N) (loop_peel (k := 0) (rest := clK b x len cap f) (body := (clS b x len cap f).body) clD1 clD (fun p hp => List.mem_append_left _ hp) (clI1 b x len cap f) (clI b x len cap f) fam1 fam k4 (fun v => ∃ N, 0 < N ∧ TrInv x len (fM f) v N) _ (fun v => ((len : Int) - v.i 0).toNat) ?_ (fun v hv => ?_)) (fun v hv => ?_)
  · obtain ⟨cs, y, hw, hg⟩ := wayR_map (hGo1 (rvV clD1 (clS b x len cap f).st))
    obtain ⟨w1, w2, w3⟩ := wayR_at hw
    simp only [Option.some.injEq, Prod.mk.injEq] at hg
    obtain ⟨g1, g2, g3⟩ := hg
    obtain ⟨r, hr, hr2⟩ := Option.map_eq_some_iff.1 g3
    simp only [Prod.mk.injEq] at hr2
    obtain ⟨r1, r2, r3⟩ := hr2
    obtain ⟨s1, s2⟩ := seg_evC tbl_ok tbl_any caC_ok (clR1_eq (rvV clD1 (clS b x len cap f).st)) (w1 (by rw [g1]; exact lwC_ok hz0 ⟨h0, Nat.zero_lt_succ 79⟩ hf))
    obtain ⟨q1, q2, q3⟩ := rv_row hr
    exact ⟨y, s1, s2, w2, w3, 1, by omega, tr_first hz0 h0 g2 (q1.trans r1) (q2.trans r2) (by rw [q3, r2]) (r3.trans (tvM_0 x f _))⟩
  · obtain ⟨k, hk0, hi⟩ := hv
    have hii := hi.hi
    by_cases hk : k < len ∧ k < 80
    · obtain ⟨cs, y, hw, hg⟩ := wayR_map (hGo v)
      obtain ⟨w1, w2, w3⟩ := wayR_at hw
      simp only [Option.some.injEq, Prod.mk.injEq] at hg
      obtain ⟨g1, g2, g3⟩ := hg
      obtain ⟨r, hr, hr2⟩ := Option.map_eq_some_iff.1 g3
      simp only [Prod.mk.injEq] at hr2
      obtain ⟨r1, r2, r3⟩ := hr2
      obtain ⟨s1, s2⟩ := seg_evC tbl_ok tbl_any caC_ok (clR_eq v) (w1 (by
        rw [g1]
        intro c hc
        rcases List.mem_append.1 hc with hc | hc
        · exact lwC_ok hii hk hf c hc
        · unfold lwC2 at hc
          rw [hi.hn, hi.hm] at hc
          simp only [List.mem_cons, List.not_mem_nil, or_false] at hc
          rcases hc with rfl | rfl
          · exact decide_eq_true (Nat.le_refl _)
          · exact decide_eq_true ⟨by omega, by omega⟩))
      obtain ⟨q1, q2, q3⟩ := rv_row hr
      have hnx := tr_next hi hk (u := rvV clD y) g2 (q1.trans r1) (q2.trans r2) (by rw [q3, r2, r3, tvM_0])
      have := hnx.hi
      exact ⟨.normal, y, s1, s2, w2, w3, Or.inl ⟨rfl, ⟨k + 1, by omega, hnx⟩, by omega⟩⟩
    · obtain ⟨cs, y, hw, hg⟩ := wayR_map (hOut v)
      obtain ⟨w1, w2, w3⟩ := wayR_at hw
      simp only [Prod.mk.injEq] at hg
      obtain ⟨g1, g8⟩ := hg
      obtain ⟨r, hr, hr2⟩ := Option.map_eq_some_iff.1 g8
      simp only [Prod.mk.injEq] at hr2
      obtain ⟨r1, r2, r3⟩ := hr2
      obtain ⟨s1, s2⟩ := seg_evC tbl_ok tbl_any caC_ok (clR_eq v) (w1 (by
        rw [g1]
        intro c hc
        simp only [List.mem_cons, List.not_mem_nil, or_false] at hc
        have hl : lg80 len (v.i 0) = false := by
          cases hl : lg80 len (v.i 0) with
          | false => rfl
          | true => have := lg80_iff.1 hl; exfalso; apply hk; omega
        rw [hc, hl]; rfl))
      obtain ⟨q1, q2, q3⟩ := rv_row hr
      refine ⟨.exit 0, y, s1, s2, w2, w3, Or.inr ⟨rfl, k, ⟨⟨hk0, hi.hle⟩, by rw [q1, r1, hi.hn], by rw [q2, r2, hi.hm], fun o ho => ?_⟩⟩⟩
      rw [q3, r2, hi.hm, r3, cut_lt ho]
      exact hi.hf o ho
  · obtain ⟨N, hi⟩ := hv
    exact h v N hi
/-- What holds ahead of round k. -/
structure ClInv (v u : FVal) (N k : Nat) : Prop where
  hi : u.i 0 = k
  hle : k ≤ N
  hw : u.i 1 = wnK (v.f 1) k
theorem lc_eq (hx : LfOk x) : ∃ L O : Nat, guN x 20 = O ∧ lcI x = L ∧ L < O ∧ O ≤ 8 := by
  have o := gu_open hx
  have h := hx 3 (by omega) (by omega)
  refine ⟨(x 3 % guN x 20).toNat, (guN x 20).toNat, by omega, ?_, ?_, by omega⟩
  · unfold lcI
    rw [w64 (by omega), Int.tmod_eq_emod_of_nonneg h.1]
    have := Int.emod_nonneg (x 3) (show guN x 20 ≠ 0 by omega)
    omega
  · have h1 := Int.emod_nonneg (x 3) (show guN x 20 ≠ 0 by omega)
    have h2 := Int.emod_lt_of_pos (x 3) (show 0 < guN x 20 by omega)
    omega
theorem wn_le' (T : Nat → Value) : ∀ k, wnK T k ≤ k
  | 0 => Nat.le_refl _
  | k + 1 => by
    have := wn_le' T k
    show (bif waK T k then wnK T k + 1 else 0) ≤ k + 1
    cases waK T k <;> simp only [cond_true, cond_false] <;> omega
theorem wc_next {v u : FVal} {N k : Nat} (h80 : k < 80) (hu : ClInv v u N k) : wcI v u = ((wnK (v.f 1) (k + 1) : Nat) : Int) := by
  have hw := hu.hw
  have hl := wn_le' (v.f 1) k
  have e : vbOf (v.f 1 (0 + (u.i 0).toNat * 31 + 29)) = waK (v.f 1) k := by
    rw [hu.hi, Nat.zero_add]; rfl
  unfold wcI
  rw [e]
  show _ = (((bif waK (v.f 1) k then wnK (v.f 1) k + 1 else 0) : Nat) : Int)
  cases waK (v.f 1) k with
  | false => rfl
  | true =>
    simp only [Bool.not_true, cond_false, cond_true]
    rw [hw, w64 (by omega)]; omega
theorem cl_bad {K A : Nat} {B : Bool} {v : FVal} {N L O : Nat} (hv : TrEnd x len (fM f) v N) (H : CalmH K A x (lcI x) (fM f) (v.f 1) len N L O) {u : FVal} {k : Nat} (hu : ClInv v u N k) (hk : k < N) :
    (∀ d ∈ clDm K A B x v u, d = true) ∧ clBad K A B x v u = false := by
  have hle := hv.hle
  have hi := hu.hi
  have hti : (u.i 0).toNat = k := by rw [hi]; rfl
  have hrow : k * 31 + 31 ≤ N * 31 := by have := Nat.mul_le_mul_right 31 (show k + 1 ≤ N from hk); omega
  have hmo : ∀ o, o < 10 → mcF K A B x v u o = ((pM K A B (nOf (gsL (guN x))) (lcI x) (v.f 1) (pN K A B (nOf (gsL (guN x))) (lcI x) (v.f 1) k))[o]?).getD undef := fun o ho => by
    unfold mcF
    rw [hti]
    exact mo_at _ _ _ ho
  have hin : inB v u = true := by unfold inB; rw [hi, hv.hn]; exact decide_eq_true ⟨by omega, by omega⟩
  have m1 : mcF K A B x v u 1 = .int .i64 (pI K A B (nOf (gsL (guN x))) (v.f 1) (pN K A B (nOf (gsL (guN x))) (lcI x) (v.f 1) k) 1) := by rw [hmo 1 (by omega)]; rfl
  have m5 : mcF K A B x v u 5 = .bool (pA K A B (nOf (gsL (guN x))) (v.f 1) (pN K A B (nOf (gsL (guN x))) (lcI x) (v.f 1) k) 3) := by rw [hmo 5 (by omega)]; rfl
  have m9 : mcF K A B x v u 9 = .bool (pQ K A B (nOf (gsL (guN x))) (lcI x) (v.f 1) (pN K A B (nOf (gsL (guN x))) (lcI x) (v.f 1) k)) := by rw [hmo 9 (by omega)]; rfl
  obtain ⟨c1, c2, c3⟩ := calm_moment (B := B) H hk
  have ec : caB K A B x v u = false := by unfold caB; rw [m1, c1]; rfl
  have ef : fiB' K A B x v u = false := by unfold fiB'; rw [m5, c2]; rfl
  refine ⟨fun d hd => ?_, ?_⟩
  · unfold clDm at hd
    rcases List.mem_append.1 hd with hd | hd
    · simp only [List.mem_cons, List.not_mem_nil, or_false] at hd
      rcases hd with rfl | rfl | rfl | rfl | rfl | rfl | rfl
      · rw [hi, hv.hn]; exact decide_eq_true (by omega)
      · exact hin
      · rw [hti, hv.hm]; exact decide_eq_true (by omega)
      · rw [hti, Nat.zero_add, row_bool hv.hf hk (Or.inr (Or.inr (Or.inl rfl)))]; rfl
      · exact hin
      · rw [hti, hv.hn]; exact decide_eq_true (by omega)
      · rw [m1]; rfl
    · rcases List.mem_append.1 hd with hd | hd
      · obtain ⟨d', hd', rfl⟩ := List.mem_map.1 hd
        have : d' = true := by
          simp only [List.mem_cons, List.not_mem_nil, or_false] at hd'
          rcases hd' with rfl | rfl | rfl
          · exact hin
          · rw [hti, hv.hn]; exact decide_eq_true (by omega)
          · rw [m5]; rfl
        rw [this, Bool.or_true]
      · obtain ⟨d', hd', rfl⟩ := List.mem_map.1 hd
        have : d' = true := by
          simp only [List.mem_cons, List.not_mem_nil, or_false] at hd'
          rcases hd' with rfl | rfl | rfl
          · exact hin
          · rw [hti, hv.hn]; exact decide_eq_true (by omega)
          · rw [m9]; rfl
        rw [this, Bool.or_true, Bool.or_true, Bool.or_true]
  · unfold clBad
    rw [ec, ef, cond_false, cond_false]
    have hO := H.hO
    have hL := H.hL
    have hlo := H.hLO
    by_cases hw : O + L + 2 < wnK (v.f 1) (k + 1)
    · rw [m9, c3 hw]
      cases wmB x v u <;> rfl
    · have e : wmB x v u = false := by
        unfold wmB
        rw [wc_next (by omega) hu, hO, hL, w64 (y := (O : Int) + (L : Int)) (by omega), w64 (by omega)]
        exact decide_eq_false (by omega)
      rw [e]; rfl
theorem cl_fin {kz : Bool} {K A : Nat} {B : Bool} (hx : LfOk x) (hf : ∀ j, j < len → All2 Lf.ok lsTk (elAt f 27 j)) {v : FVal} {N : Nat} (hv : TrEnd x len (fM f) v N) (hB : ∀ u, clB' b x len cap f kz v u = clBX b x kz v u K A B) (hfd : ∀ c ∈ fdB b x kz, c = true) (hK : K = 0 ∨ K = 1 ∨ K = 2 ∨ K = 5) (hA : A < 3) :
    SegTo Try.prog clF.ntmps (clI b x len cap f v) (clK b x len cap f) .normal (LwEnd 12) := by
  have hle := hv.hle
  obtain ⟨L, O, hO, hL, hLO⟩ := lc_eq hx
  have H : CalmH K A x (lcI x) (fM f) (v.f 1) len N L O := ⟨hK, hA, hx, fM_ok hf, hle.2.1, hle.2.2, hv.hf, fun k _ => (fM_calm k).1, fun k _ => ⟨(fM_calm k).2.1, (fM_calm k).2.2.1⟩, fun k _ => (fM_calm k).2.2.2 _, hL, hO, hLO⟩
  have hB' := hB
  unfold clB' clBX at hB'
  simp only [Prod.mk.injEq] at hB'
  have hUp := fun u => (hB' u).1
  have hGo := fun u => (hB' u).2.1
  have hOut := fun u => (hB' u).2.2.1
  have hEnd := fun u => (hB' u).2.2.2
  clear hB hB'
  have htru : ∀ r, r < N → truOk (v.f 1) r = true := fun r hr => row_ok hx (fM_ok hf) hle.2.1 hv.hf hr
  have hpl : plDem (nOf (gsL (guN x))) (lcI x) (v.n 1) (v.m 1) = true := by
    unfold plDem
    rw [Bool.and_eq_true, Bool.and_eq_true, hv.hn, hv.hm]
    refine ⟨?_, decide_eq_true ?_, decide_eq_true ⟨hle.1, by omega, Nat.le_refl _⟩⟩
    · have : chkR (nOf (gsL (nOf (gsL (guN x))))) = chkR (guN x) := rfl
      rw [this, chk_gu hx]; rfl
    · omega
  obtain ⟨cs, y, hw, hg⟩ := selW_map (hUp ⟨fun _ => false, fun _ => 0, fun _ => 0, fun _ => 0, fun _ _ => undef⟩)
  simp only [Prod.mk.injEq] at hg
  obtain ⟨k1, k2, k3, k4, -, k7, k8⟩ := hg
  have hat := selW_G hw (by
    rw [k1]
    intro c hc
    rcases List.mem_append.1 hc with hc | hc
    · exact hfd c hc
    · simp only [List.mem_cons, List.not_mem_nil, or_false] at hc
      rcases hc with rfl | rfl | rfl
      · exact hpl
      · rw [hv.hn]; exact List.all_eq_true.2 fun j hj => htru j (List.mem_range.1 hj)
      · simp)
  obtain ⟨S, hS⟩ := Option.isSome_iff_exists.1 k2
  have hSe : clS2 b x len cap f kz v = S := by unfold clS2; rw [hw]; simp only [Option.map_some, Option.bind_some, hS, Option.getD_some]
  have hxx := stpOf_at hS
  rw [← hSe, k3] at hxx
  have hKK : (clS2 b x len cap f kz v).rest = clK2 b x len cap f kz v := by unfold clK2; rfl
  rw [hKK] at hxx
  refine (caC_seg (clT2_eq v) hat).then_ hxx ?_
  refine seg_block ?_
  have fam : ∀ u, (clS2 b x len cap f kz v).st.apps (famW u 0 clD2) = some (clI2 b x len cap f kz v u) := fun u => by
    obtain ⟨cs, y, hw, hg⟩ := selW_map (hUp u)
    simp only [Prod.mk.injEq] at hg
    obtain ⟨I, hI⟩ := Option.isSome_iff_exists.1 hg.2.2.2.2.1
    unfold clI2
    rw [hI, Option.getD_some]
  refine loop_then (k := 4) (rest := clK2 b x len cap f kz v) (body := (clS2 b x len cap f kz v).body) clD2 (σ := (clS2 b x len cap f kz v).st) (clI2 b x len cap f kz v) fam k4 (fun u => ∃ k, ClInv v u N k) (fun _ => True) (fun u => ((N : Int) - u.i 0).toNat) ⟨0, ?_⟩ (fun u hu => ?_) (fun u _ => ?_)
  · exact ⟨by rw [rvV_i, k7]; rfl, Nat.zero_le _, by rw [rvV_i, k8]; rfl⟩
  · obtain ⟨k, hu⟩ := hu
    have hi := hu.hi
    by_cases hk : k < N
    · obtain ⟨cs, y, hw, hg⟩ := wayR_map (hGo u)
      obtain ⟨w1, w2, w3⟩ := wayR_at hw
      simp only [Prod.mk.injEq] at hg
      obtain ⟨g1, g2, g3⟩ := hg
      obtain ⟨d1, d2⟩ := cl_bad (K := K) (A := A) (B := B) hv H hu hk
      obtain ⟨s1, s2⟩ := seg_evC tbl_ok tbl_any caC_ok (clR2_eq kz v u) (w1 (by
        rw [g1]
        intro c hc
        rcases List.mem_append.1 hc with hc | hc
        · exact d1 c hc
        · simp only [List.mem_cons, List.not_mem_nil, or_false] at hc
          rw [hc, d2]; rfl))
      have e0 : (rvV clD2 y).i 0 = u.i 0 + 1 := by
        rw [rvV_i, g2, hi]
        exact w64 (by omega)
      have e1 : (rvV clD2 y).i 1 = ((wnK (v.f 1) (k + 1) : Nat) : Int) := by
        rw [rvV_i, g3]; exact wc_next (by omega) hu
      exact ⟨.normal, y, s1, s2, w2, w3, Or.inl ⟨rfl, ⟨k + 1, by rw [e0, hi]; omega, hk, e1⟩, by omega⟩⟩
    · have hkn : k = N := Nat.le_antisymm hu.hle (by omega)
      obtain ⟨cs, y, hw, hg⟩ := wayR_map (hOut u)
      obtain ⟨w1, w2, w3⟩ := wayR_at hw
      simp only at hg
      obtain ⟨s1, s2⟩ := seg_evC tbl_ok tbl_any caC_ok (clR2_eq kz v u) (w1 (by
        rw [hg]
        intro c hc
        simp only [List.mem_cons, List.not_mem_nil, or_false] at hc
        rw [hc, hv.hn, decide_eq_false (by omega)]; rfl))
      exact ⟨.exit 4, y, s1, s2, w2, w3, Or.inr ⟨rfl, trivial⟩⟩
  · obtain ⟨cs, y, hw, hg⟩ := selW_map (hEnd u)
    simp only [Prod.mk.injEq] at hg
    obtain ⟨q1, q2⟩ := hg
    have hat := selW_G hw (by rw [q1]; exact all_nil)
    exact (caC_seg (clX_eq kz v u) hat).to (retB_end q2)
theorem kd_calm (h : kdX x = false) : kdI x = 0 ∨ kdI x = 1 ∨ kdI x = 2 ∨ kdI x = 5 := by
  unfold kdX at h
  by_cases h0 : kdI x = 0
  · exact Or.inl h0
  by_cases h1 : kdI x = 1
  · exact Or.inr (Or.inl h1)
  by_cases h2 : kdI x = 2
  · exact Or.inr (Or.inr (Or.inl h2))
  rw [show (kdI x != 0) = true by simpa using h0, show (kdI x != 1) = true by simpa using h1, show (kdI x != 2) = true by simpa using h2] at h
  exact Or.inr (Or.inr (Or.inr (by simpa using h)))
theorem cl_seg (hx : LfOk x) (hf : ∀ j, j < len → All2 Lf.ok lsTk (elAt f 27 j)) (h0 : 0 < len) :
    SegTo Try.prog clF.ntmps (lwE 12 b x len cap f) [.code (cdOf 12)] .normal (LwEnd 12) := by
  cases hkx : kdX x with
  | true =>
    have hA := cl_A b x len cap f ⟨fun _ => false, fun _ => 0, fun _ => 0, fun _ => 0, fun _ _ => undef⟩
    unfold clA clAX at hA
    simp only [Prod.mk.injEq] at hA
    obtain ⟨cs, y, hw, hg⟩ := selW_map hA.2.1
    simp only [Prod.mk.injEq] at hg
    obtain ⟨q1, q2⟩ := hg
    have hat := selW_G hw (by
      rw [q1]
      intro c hc
      simp only [List.mem_cons, List.not_mem_nil, or_false] at hc
      rcases hc with rfl | rfl
      · exact open_ne hx
      · exact hkx)
    exact (caC_seg clT_eq hat).to (retB_end q2)
  | false =>
    refine cl_up hx hkx hf h0 fun v N hv => ?_
    have k := kd_eq hx
    have a := pa_eq hx
    have kc := kd_calm hkx
    cases hk : (kdI x == 0) with
    | true => exact cl_fin hx hf hv (fun u => cl_B0 b x len cap f v u) (fd_ok hx hk.symm) (by omega) (by omega)
    | false => exact cl_fin hx hf hv (fun u => cl_B1 b x len cap f v u) (fd_ok hx hk.symm) (by omega) (by omega)
end
end Go.Proofs.Ytgiinciclnekjaa

/-
  A life that is handed over.
-/
set_option linter.unusedSimpArgs false
set_option linter.unusedVariables false
namespace Go.Proofs.Ytgiinciclnekjaa
open Sx Go.RowKit
set_option maxRecDepth 100000
noncomputable def fsL : Array Field := match tbl.und 114 with
  | some (.struct fs) => fs
  | _ => #[]
noncomputable def flL : Field := (fsL.toList.getLast?).getD ⟨"", 0, 0, false, "", "", 0⟩
theorem life_open {H : Type} {enc : TypeId × Value → H} {w : World} {base : Nat} {spare : Nat → Bool} {held : Bool} {v : Value} {dt : DataW H} {ps : List MemPlace} {r : Reach} {b0 : Nat} (hv : Value.okWide Try.prog w r b0 114 v) (h : DataW.Trod enc Try.prog w base spare held 114 v dt ps) :
    ∃ (bs : Nat → Bool) (ns : Nat → Int) (x : Value), v = .agg ((symL bs ns 0 lsLf).map (·.den env0) ++ [x]).toArray ∧ WfL ns lsLf ∧ RowIs w 27 lsTk x :=
  open_last (fs := fsL) (fs0 := fsL.toList.take 7) (fl := flL) (ls := lsLf) (lse := lsTk) (te := 124) (i := Try.t124) tbl_ok (by kernel_rfl) (by kernel_rfl) (by kernel_rfl) (by kernel_rfl) (by rw [cellsOf_info tbl_ok (i := Try.t114) (by kernel_rfl)]; kernel_rfl) (by rw [cellsOf_info tbl_ok (i := Try.t112) (by kernel_rfl)]; kernel_rfl) (by kernel_rfl) (by kernel_rfl) (by kernel_rfl) (by decide) hv h
end Go.Proofs.Ytgiinciclnekjaa
