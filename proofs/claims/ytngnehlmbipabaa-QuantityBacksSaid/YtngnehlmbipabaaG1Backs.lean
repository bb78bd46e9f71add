/-
  The walks of the arithmetic of package quantity: is, below, sign, b2i, divide, down, up, fit.
-/
import Derived.Test.YtngnehlmbipabaaRows
import Derived.Test.YtngnehlmbipabaaG0Backs
set_option linter.unusedSimpArgs false
set_option linter.unusedVariables false
namespace Go.Proofs.Ytngnehlmbipabaa
open Go.RowKit

def isQ (x : Int) : Bool := decide (-1099511627776 ≤ x) && decide (x ≤ 1099511627776)
theorem isQ_iff (x : Int) : isQ x = true ↔ -1099511627776 ≤ x ∧ x ≤ 1099511627776 := by simp [isQ]
theorem isQ_false (x : Int) : isQ x = false ↔ (x < -1099511627776 ∨ 1099511627776 < x) := by
  rw [← Bool.not_eq_true, isQ_iff]; omega
def sg (x : Int) : Int := if x < 0 then -1 else if 0 < x then 1 else 0

set_option maxHeartbeats 400000 in
theorem is_any (x : Int) (w : World) : Calls Try.prog 39 #[.int .i64 x] w fun e w' => e = .returned (.bool (isQ x)) ∧ w = w' := by
  have hq : isQ x = (decide (-1099511627776 ≤ x) && decide (x ≤ 1099511627776)) := rfl
  rw [hq]; clear hq
  go_enter Try.func39, Try.ntmps39
  go_wp2
  all_goals
    go_ret
    exact ⟨by simp [*] <;> omega, rfl⟩

set_option maxHeartbeats 400000 in
theorem sign_any (x : Int) (w : World) : Calls Try.prog 79 #[.int .i64 x] w fun e w' => e = .returned (.int .i64 (sg x)) ∧ w = w' := by
  unfold sg
  go_enter Try.func79, Try.ntmps79
  go_wp2
  all_goals
    go_ret
    exact ⟨by simp [*], rfl⟩

/-- 'a & 1' on an int64 that is not below 0. -/
theorem and_one_i64 (a : Int) (h0 : 0 ≤ a) (h1 : a ≤ 9223372036854775807) : bits BinOp.and IntKind.i64 a 1 = a % 2 := by
  obtain ⟨n, rfl⟩ := Int.eq_ofNat_of_zero_le h0
  have h2 : (BitVec.ofInt 64 (n : Int)).toNat = n := by
    rw [BitVec.ofInt_natCast, BitVec.toNat_ofNat]; exact Nat.mod_eq_of_lt (by omega)
  have h3 : (BitVec.ofInt 64 (1 : Int)).toNat = 1 := by rfl
  show IntKind.i64.wrap ((BitVec.ofInt 64 (n : Int) &&& BitVec.ofInt 64 (1 : Int)).toNat : Int) = _
  rw [BitVec.toNat_and, h2, h3, Nat.and_one_is_mod]
  have h4 : ((n % 2 : Nat) : Int) = (n : Int) % 2 := by omega
  rw [h4]
  exact IntWalk.i64_in _ (by omega)

set_option maxHeartbeats 400000 in
theorem divide_any (x n d : Int) (w : World) (hx0 : 0 ≤ x) (hx : x ≤ 4398046511104) (hn0 : 0 ≤ n) (hn : n ≤ 4398046511104) (hd0 : 1 ≤ d) (hd : d ≤ 4398046511104) :
    Calls Try.prog 78 #[.int .i64 x, .int .i64 n, .int .i64 d] w fun e w' => e = .returned (.tuple #[.int .i64 (Pl.dvq x n d), .int .i64 (Pl.dvr x n d)]) ∧ ∃ k, w.drewN k = w' := by
  by_cases h1 : x = 0
  · subst h1
    go_enter Try.func78, Try.ntmps78
    go_wp2
    go_ret2
    exact ⟨by simp [Pl.dvq, Pl.dvr, Pl.LIM], 0, rfl⟩
  by_cases h2 : n = 0
  · subst h2
    have h1' : (x == 0) = false := by simpa using h1
    clear h1
    go_enter Try.func78, Try.ntmps78
    go_wp2
    go_ret2
    exact ⟨by simp [Pl.dvq, Pl.dvr, Pl.LIM], 0, rfl⟩
  have h1' : (x == 0) = false := by simpa using h1
  have h2' : (n == 0) = false := by simpa using h2
  clear h1 h2
  go_enter Try.func78, Try.ntmps78
  go_wp2
  go_quiet (fail)
  go_wp2
  have hw1 : 0 ≤ x / d := Int.ediv_nonneg hx0 (by omega)
  have hw2 : x / d ≤ 4398046511104 := Int.le_trans (Int.ediv_le_self _ hx0) hx
  have hp1 : 0 ≤ x % d := Int.emod_nonneg _ (by omega)
  have hp2 : x % d < d := Int.emod_lt_of_pos _ (by omega)
  generalize hwh : x / d = wh at *
  generalize hpt : x % d = pt at *
  have Hwh := Lib.hid hwh
  have Hpt := Lib.hid hpt
  clear hwh hpt
  go_loop [10, 11, 25] (fun q r i => ∃ (k : Nat) (Q R : Int), k ≤ 44 ∧ i = .int .i64 k ∧ q = .int .i64 Q ∧ r = .int .i64 R ∧ 0 ≤ Q ∧ Q ≤ 288230376151711744 ∧ 0 ≤ R ∧ R < d ∧ Hid (x * Pl.top n k / d = Q ∧ x * Pl.top n k % d = R)) (fun _ _ i => 44 - (intOf i).toNat)
  case atStart => exact ⟨0, 0, 0, by omega, rfl, rfl, rfl, by omega, by omega, by omega, by omega, by rw [Pl.top_zero hn0 (by omega)]; simp [Hid]⟩
  case round =>
    obtain ⟨k, Q, R, hk, rfl, rfl, rfl, hQ0, hQ, hR0, hR, HQ⟩ := hrel
    by_cases hlt : k < 44
    · have e1 : 0 ≤ 2 * R / d := Int.ediv_nonneg (by omega) (by omega)
      have e2 : 2 * R / d ≤ 2 := Int.le_of_lt_add_one (Int.ediv_lt_of_lt_mul (by omega) (by omega))
      have e3 : 0 ≤ (2 * R + pt) / d := Int.ediv_nonneg (by omega) (by omega)
      have e4 : (2 * R + pt) / d ≤ 2 := Int.le_of_lt_add_one (Int.ediv_lt_of_lt_mul (by omega) (by omega))
      have hz : 0 ≤ n / 2 ^ (43 - k) := Int.ediv_nonneg hn0 (Int.le_of_lt (Int.pow_pos (by decide)))
      have hz2 : n / 2 ^ (43 - k) ≤ 9223372036854775807 := Int.le_trans (Int.ediv_le_self _ hn0) (by omega)
      have hb := and_one_i64 (n / 2 ^ (43 - k)) hz hz2
      have hts := Pl.top_step n k hlt
      obtain ⟨q1, q2⟩ := HQ.out
      rcases (show n / 2 ^ (43 - k) % 2 = 0 ∨ n / 2 ^ (43 - k) % 2 = 1 by omega) with hbit | hbit
      · have hbb : (bits BinOp.and IntKind.i64 (n / 2 ^ (43 - k)) 1 == 1) = false := by rw [hb, hbit]; rfl
        have HH : Hid (x * Pl.top n (k + 1) / d = 2 * Q + 2 * R / d ∧ x * Pl.top n (k + 1) % d = 2 * R % d) := by
          have hdg := Pl.digit (x := x) (d := d) (m := Pl.top n k) (b := 0) (by omega)
          rw [hts, hbit, hdg.1, hdg.2, q1, q2]
          simp [Hid]
        clear hb hts q1 q2 hbit hz hz2 e3 e4
        have hr1 : 0 ≤ 2 * R % d := Int.emod_nonneg _ (by omega)
        have hr2 : 2 * R % d < d := Int.emod_lt_of_pos _ (by omega)
        by_cases hf : 288230376151711744 < 2 * Q + 2 * R / d
        · go_wp2
          go_ret2
          have hfar := Pl.far_of_top (i := k + 1) hx0 hn0 (show 0 < d by omega) (by rw [HH.out.1]; exact hf)
          exact ⟨by simp [Pl.dvq, Pl.dvr, hfar, Pl.FAR], nq, rfl⟩
        · go_wp2
          go_round
          case rel => exact ⟨k + 1, _, _, by omega, by go_num, rfl, rfl, by omega, by omega, hr1, hr2, HH⟩
          case measure => simp [intOf]; omega
      · have hbb : (bits BinOp.and IntKind.i64 (n / 2 ^ (43 - k)) 1 == 1) = true := by rw [hb, hbit]; rfl
        have HH : Hid (x * Pl.top n (k + 1) / d = 2 * Q + wh + (2 * R + pt) / d ∧ x * Pl.top n (k + 1) % d = (2 * R + pt) % d) := by
          have hdg := Pl.digit (x := x) (d := d) (m := Pl.top n k) (b := 1) (by omega)
          rw [hts, hbit, hdg.1, hdg.2, q1, q2, Hwh.out, Hpt.out]
          simp [Hid]
        clear hb hts q1 q2 hbit hz hz2 e1 e2
        have hr1 : 0 ≤ (2 * R + pt) % d := Int.emod_nonneg _ (by omega)
        have hr2 : (2 * R + pt) % d < d := Int.emod_lt_of_pos _ (by omega)
        by_cases hf : 288230376151711744 < 2 * Q + wh + (2 * R + pt) / d
        · go_wp2
          go_ret2
          have hfar := Pl.far_of_top (i := k + 1) hx0 hn0 (show 0 < d by omega) (by rw [HH.out.1]; exact hf)
          exact ⟨by simp [Pl.dvq, Pl.dvr, hfar, Pl.FAR], nq, rfl⟩
        · go_wp2
          go_round
          case rel => exact ⟨k + 1, _, _, by omega, by go_num, rfl, rfl, by omega, by omega, hr1, hr2, HH⟩
          case measure => simp [intOf]; omega
    · go_wp2
      go_ret2
      obtain rfl : k = 44 := by omega
      have hq := HQ.out
      rw [Pl.top_end] at hq
      exact ⟨by simp [Pl.dvq, Pl.dvr, hq.1, hq.2, Pl.LIM]; omega, nq, rfl⟩

end Go.Proofs.Ytngnehlmbipabaa

/-
  The walks of down, up, fit, below, ratio's parts, and of their kin in the reference: Is, den, abs, whole, Down, Up, number.
-/
set_option linter.unusedSimpArgs false
set_option linter.unusedVariables false
namespace Go.Proofs.Ytngnehlmbipabaa
open Go.RowKit

theorem sg_mul (x : Int) : x * sg x = (x.natAbs : Int) := by
  unfold sg; split <;> (try split) <;> omega
theorem sg_bd (x : Int) : -1 ≤ sg x ∧ sg x ≤ 1 := by
  unfold sg; split <;> (try split) <;> omega

/-- x n / d, rounded down, as 'down' returns it: what is far is far. -/
def dn (x n d : Int) : Int :=
  if 0 ≤ sg x * sg n * sg d then Pl.dvq x.natAbs n.natAbs d.natAbs
  else if 0 < Pl.dvr x.natAbs n.natAbs d.natAbs then -(Pl.dvq x.natAbs n.natAbs d.natAbs + 1) else -(Pl.dvq x.natAbs n.natAbs d.natAbs)
def up (x n d : Int) : Int := - dn (-x) n d

theorem dvq_bd (x n d : Int) (hx : 0 ≤ x) (hn : 0 ≤ n) (hd : 1 ≤ d) : 0 ≤ Pl.dvq x n d ∧ Pl.dvq x n d ≤ 1152921504606846976 := by
  have h := Int.ediv_nonneg (Int.mul_nonneg hx hn) (show 0 ≤ d by omega)
  unfold Pl.dvq Pl.FAR Pl.LIM
  split <;> omega
theorem dvr_bd (x n d : Int) (hd : 1 ≤ d) : 0 ≤ Pl.dvr x n d ∧ Pl.dvr x n d < d := by
  have h1 := Int.emod_nonneg (x * n) (show d ≠ 0 by omega)
  have h2 := Int.emod_lt_of_pos (x * n) (show 0 < d by omega)
  unfold Pl.dvr
  split <;> omega

theorem mul_one_bd {a b : Int} (ha : -1 ≤ a ∧ a ≤ 1) (hb : -1 ≤ b ∧ b ≤ 1) : -1 ≤ a * b ∧ a * b ≤ 1 := by
  have h1 : a = -1 ∨ a = 0 ∨ a = 1 := by omega
  rcases h1 with rfl | rfl | rfl <;> omega

set_option maxHeartbeats 400000 in
theorem down_any (x n d : Int) (w : World) (hx0 : -4398046511104 ≤ x) (hx : x ≤ 4398046511104) (hn0 : -4398046511104 ≤ n) (hn : n ≤ 4398046511104) (hd0 : -4398046511104 ≤ d) (hd : d ≤ 4398046511104) (hdz : d ≠ 0) :
    Calls Try.prog 46 #[.int .i64 x, .int .i64 n, .int .i64 d] w fun e w' => e = .returned (.int .i64 (dn x n d)) ∧ ∃ k, w.drewN k = w' := by
  unfold dn
  have mx := sg_mul x
  have mn := sg_mul n
  have md := sg_mul d
  have ax : (x.natAbs : Int) ≤ 4398046511104 := by omega
  have an : (n.natAbs : Int) ≤ 4398046511104 := by omega
  have ad : (d.natAbs : Int) ≤ 4398046511104 := by omega
  have ad1 : 1 ≤ (d.natAbs : Int) := by omega
  have bx := sg_bd x
  have bn := sg_bd n
  have bd := sg_bd d
  generalize x.natAbs = X at *
  generalize n.natAbs = N at *
  generalize d.natAbs = D at *
  have b1 := dvq_bd X N D (by omega) (by omega) (by omega)
  have b2 := dvr_bd X N D (by omega)
  have hdiv := fun w => divide_any X N D w (by omega) ax (by omega) an ad1 ad
  generalize Pl.dvq X N D = q at *
  generalize Pl.dvr X N D = r at *
  have HD := Lib.hid hdiv
  clear hdiv
  have bs1 := mul_one_bd bx bn
  generalize hs1 : sg x * sg n = s1 at *
  have bs2 := mul_one_bd bs1 bd
  generalize hs2 : s1 * sg d = s2 at *
  obtain ⟨c1, c2⟩ := b1
  obtain ⟨c3, c4⟩ := b2
  obtain ⟨c5, c6⟩ := bs1
  obtain ⟨c7, c8⟩ := bs2
  go_enter Try.func46, Try.ntmps46
  go_wp2_with (first
    | (go_at_call 79; refine (sign_any _ _).mono ?_; rintro e w' ⟨rfl, rfl⟩)
    | (go_at_call 78; refine (HD.out _).mono ?_; rintro e w' ⟨rfl, k, rfl⟩))
  all_goals
    go_ret
    exact ⟨by simp [*], _, rfl⟩

theorem sub_div {a d : Int} (hd : 0 < d) : (a - d) / d = a / d - 1 ∧ (a - d) % d = a % d := by
  have e : a - d = a + (-1) * d := by omega
  rw [e, Int.add_mul_ediv_right _ _ (by omega), Int.add_mul_emod_self_right]
  exact ⟨by omega, rfl⟩

set_option maxHeartbeats 1000000 in
theorem whole_any (x n d : Int) (w : World) (hx0 : 0 ≤ x) (hx : x ≤ 4398046511104) (hn0 : 0 ≤ n) (hn : n ≤ 4398046511104) (hd0 : 1 ≤ d) (hd : d ≤ 4398046511104) :
    Calls Try.prog 80 #[.int .i64 x, .int .i64 n, .int .i64 d] w fun e w' => e = .returned (.tuple #[.int .i64 (Pl.dvq x n d), .int .i64 (Pl.dvr x n d)]) ∧ ∃ k, w.drewN k = w' := by
  have hw1 : 0 ≤ x / d := Int.ediv_nonneg hx0 (by omega)
  have hw2 : x / d ≤ 4398046511104 := Int.le_trans (Int.ediv_le_self _ hx0) hx
  have hp1 : 0 ≤ x % d := Int.emod_nonneg _ (by omega)
  have hp2 : x % d < d := Int.emod_lt_of_pos _ (by omega)
  generalize hwh : x / d = wh at *
  generalize hpt : x % d = pt at *
  have Hwh := Lib.hid hwh
  have Hpt := Lib.hid hpt
  go_enter Try.func80, Try.ntmps80
  go_wp2
  go_loopw [8, 9, 10] (fun q r i wr => ∃ (k nq : Nat) (Q R : Int), k ≤ 44 ∧ i = .int .i64 (43 - k) ∧ q = .int .i64 Q ∧ r = .int .i64 R ∧ 0 ≤ Q ∧ Q ≤ 288230376151711744 ∧ 0 ≤ R ∧ R < d ∧ wr = w.drewN nq ∧ Hid (x * Pl.top n k / d = Q ∧ x * Pl.top n k % d = R)) (fun _ _ i _ => (intOf i + 1).toNat)
  case atStart => exact ⟨0, 0, 0, 0, by omega, rfl, rfl, rfl, by omega, by omega, by omega, by omega, rfl, by rw [Pl.top_zero hn0 (by omega)]; simp [Hid]⟩
  case round =>
    obtain ⟨k, nq, Q, R, hk, rfl, rfl, rfl, hQ0, hQ, hR0, hR, rfl, HQ⟩ := hrel
    by_cases hlt : k < 44
    · have hz : 0 ≤ n / 2 ^ (43 - k) := Int.ediv_nonneg hn0 (Int.le_of_lt (Int.pow_pos (by decide)))
      have hts := Pl.top_step n k hlt
      obtain ⟨q1, q2⟩ := HQ.out
      rcases (show n / 2 ^ (43 - k) % 2 = 0 ∨ n / 2 ^ (43 - k) % 2 = 1 by omega) with hbit | hbit
      · have HH : Hid (x * Pl.top n (k + 1) / d = 2 * Q + 2 * R / d ∧ x * Pl.top n (k + 1) % d = 2 * R % d) := by
          have hdg := Pl.digit (x := x) (d := d) (m := Pl.top n k) (b := 0) (by omega)
          rw [hts, hbit, hdg.1, hdg.2, q1, q2]
          simp [Hid]
        clear hts q1 q2
        go_wp2
        go_loop [8, 9] (fun q r => ∃ (Q' R' : Int), q = .int .i64 Q' ∧ r = .int .i64 R' ∧ 0 ≤ R' ∧ R' ≤ 2 * R ∧ 0 ≤ Q' ∧ Q' + R' ≤ 2 * Q + (2 * R) ∧ Hid (Q' + R' / d = 2 * Q + (2 * R) / d ∧ R' % d = (2 * R) % d)) (fun _ r => (intOf r).toNat)
        case atStart => exact ⟨_, _, rfl, rfl, by omega, by omega, by omega, by omega, rfl, rfl⟩
        case round =>
          obtain ⟨Q', R', rfl, rfl, hR'0, hR'1, hQ'0, hQ'1, HQ'⟩ := hrel
          by_cases hge : d ≤ R'
          · go_wp2
            go_round
            case rel =>
              have hs := sub_div (a := R') (d := d) (by omega)
              have ho := HQ'.out
              exact ⟨_, _, rfl, rfl, by omega, by omega, by omega, by omega, by rw [Hid, hs.1, hs.2]; exact ⟨by omega, ho.2⟩⟩
            case measure => simp [intOf]; omega
          · have ho := HQ'.out
            have hz1 : R' / d = 0 := Int.ediv_eq_zero_of_lt (by omega) (by omega)
            have hz2 : R' % d = R' := Int.emod_eq_of_lt (by omega) (by omega)
            rw [hz1, hz2] at ho
            have HH2 : Hid (x * Pl.top n (k + 1) / d = Q' ∧ x * Pl.top n (k + 1) % d = R') := ⟨by rw [HH.out.1, ← ho.1]; omega, by rw [HH.out.2, ← ho.2]⟩
            clear ho hz1 hz2 HQ' HH
            by_cases hf : 288230376151711744 < Q'
            · go_wp2
              go_ret2
              have hfar := Pl.far_of_top (i := k + 1) hx0 hn0 (show 0 < d by omega) (by rw [HH2.out.1]; exact hf)
              exact ⟨by simp [Pl.dvq, Pl.dvr, hfar, Pl.FAR], nq, rfl⟩
            · go_wp2
              go_roundw
              case rel => exact ⟨k + 1, nq, _, _, by omega, by go_num, rfl, rfl, by omega, by omega, by omega, by omega, rfl, HH2⟩
              case measure => simp [intOf]; omega
      · have HH : Hid (x * Pl.top n (k + 1) / d = 2 * Q + wh + (2 * R + pt) / d ∧ x * Pl.top n (k + 1) % d = (2 * R + pt) % d) := by
          have hdg := Pl.digit (x := x) (d := d) (m := Pl.top n k) (b := 1) (by omega)
          rw [hts, hbit, hdg.1, hdg.2, q1, q2, Hwh.out, Hpt.out]
          simp [Hid]
        clear hts q1 q2
        go_wp2
        go_loop [8, 9] (fun q r => ∃ (Q' R' : Int), q = .int .i64 Q' ∧ r = .int .i64 R' ∧ 0 ≤ R' ∧ R' ≤ 2 * R + pt ∧ 0 ≤ Q' ∧ Q' + R' ≤ 2 * Q + wh + (2 * R + pt) ∧ Hid (Q' + R' / d = 2 * Q + wh + (2 * R + pt) / d ∧ R' % d = (2 * R + pt) % d)) (fun _ r => (intOf r).toNat)
        case atStart => exact ⟨_, _, rfl, rfl, by omega, by omega, by omega, by omega, rfl, rfl⟩
        case round =>
          obtain ⟨Q', R', rfl, rfl, hR'0, hR'1, hQ'0, hQ'1, HQ'⟩ := hrel
          by_cases hge : d ≤ R'
          · go_wp2
            go_round
            case rel =>
              have hs := sub_div (a := R') (d := d) (by omega)
              have ho := HQ'.out
              exact ⟨_, _, rfl, rfl, by omega, by omega, by omega, by omega, by rw [Hid, hs.1, hs.2]; exact ⟨by omega, ho.2⟩⟩
            case measure => simp [intOf]; omega
          · have ho := HQ'.out
            have hz1 : R' / d = 0 := Int.ediv_eq_zero_of_lt (by omega) (by omega)
            have hz2 : R' % d = R' := Int.emod_eq_of_lt (by omega) (by omega)
            rw [hz1, hz2] at ho
            have HH2 : Hid (x * Pl.top n (k + 1) / d = Q' ∧ x * Pl.top n (k + 1) % d = R') := ⟨by rw [HH.out.1, ← ho.1]; omega, by rw [HH.out.2, ← ho.2]⟩
            clear ho hz1 hz2 HQ' HH
            by_cases hf : 288230376151711744 < Q'
            · go_wp2
              go_ret2
              have hfar := Pl.far_of_top (i := k + 1) hx0 hn0 (show 0 < d by omega) (by rw [HH2.out.1]; exact hf)
              exact ⟨by simp [Pl.dvq, Pl.dvr, hfar, Pl.FAR], nq, rfl⟩
            · go_wp2
              go_roundw
              case rel => exact ⟨k + 1, nq, _, _, by omega, by go_num, rfl, rfl, by omega, by omega, by omega, by omega, rfl, HH2⟩
              case measure => simp [intOf]; omega
    · go_wp2
      go_ret2
      obtain rfl : k = 44 := by omega
      have hq := HQ.out
      rw [Pl.top_end] at hq
      exact ⟨by simp [Pl.dvq, Pl.dvr, hq.1, hq.2, Pl.LIM]; omega, nq, rfl⟩

end Go.Proofs.Ytngnehlmbipabaa
