/-
  The walk of the law PassportCollides.
-/
import Derived.Test.YtlhponankanlmaaDoorG2Collides
import Derived.Test.YtlhponankanlmaaDoorG9Collides
set_option linter.unusedSimpArgs false
set_option linter.unusedVariables false
namespace Go.Proofs.YtlhponankanlmaaDoor
open Sx Go.RowKit

theorem dig_lt (x : Nat) (m : List Nat) : dig 257 1 x m < 257 := horner_lt (by decide) x _
theorem digR_small {x : Nat} {m : List Nat} (h1 : 1 ≤ x) (h2 : x ≤ 256) (hl : m.length ≤ 1000) : digR 0 x m = (dig 257 1 x m, 0) := by
  unfold digR
  rw [show fi 0 = some 0 from rfl]
  have e1 : ¬ (1000 < m.length) := by omega
  have e2 : ¬ (x < 1 ∨ prim 0 ≤ x) := by show ¬ (x < 1 ∨ 257 ≤ x); omega
  dsimp only
  rw [if_neg e1, if_neg e2]
  rfl
theorem wordsR_small {k : Nat} (h2 : k ≤ 1000) : wordsR 0 k = ((k : Int) + 2, 0) := by
  unfold wordsR
  rw [show fi 0 = some 0 from rfl]
  have e1 : ¬ ((k : Int) < 0 ∨ 1000 < (k : Int)) := by omega
  dsimp only
  rw [if_neg e1]
  simp
theorem Digest_small (x c : Nat) (a : Option Addr) (m : List Nat) (w : World) (h1 : 1 ≤ x) (h2 : x ≤ 256) (hB : Byt m) (hlen : m.length ≤ 1000) (hA : BytV a m w) :
    Calls Tryd.prog 9 #[.int .i64 0, .int .u64 x, .slice a m.length c] w fun e w' => e = .returned (.tuple #[.int .u64 (dig 257 1 x m : Nat), .int .i64 0]) ∧ Below w.heap.size w w' := by
  have h := Digest_any 0 x c a m w (by omega) hB (by omega) hA
  rw [digR_small h1 h2 hlen] at h
  exact h
theorem Words_small (k : Nat) (w : World) (h2 : k ≤ 1000) :
    Calls Tryd.prog 10 #[.int .i64 0, .int .i64 k] w fun e w' => e = .returned (.tuple #[.int .i64 ((k : Int) + 2), .int .i64 0]) ∧ Below w.heap.size w w' := by
  have h := Words_any 0 k w (by omega) (by omega)
  rw [wordsR_small h2] at h
  exact h
theorem rts_more (f : Nat → Bool) (k : Nat) : (rts f (k + 1)).length = (rts f k).length + (if f (k + 1) then 1 else 0) := by
  show (if f (k + 1) = true then (((k : Nat) : Int) + 1) :: rts f k else rts f k).length = _
  cases f (k + 1) <;> simp
theorem rts_le (f : Nat → Bool) : ∀ k, (rts f k).length ≤ k
  | 0 => by simp [rts]
  | k + 1 => by rw [rts_more]; have := rts_le f k; split <;> omega
theorem hits_eq {a b : List Nat} {x : Nat} : hits a b 0 x = decide (dig 257 1 x a = dig 257 1 x b) := by
  unfold hits
  have h1 := dig_lt x a
  have h2 := dig_lt x b
  rw [decide_eq_decide]
  omega

set_option maxHeartbeats 2000000 in
set_option maxRecDepth 20000 in
theorem PassportCollides_walk (a b : Option Addr) (c d : Nat) (m n : List Nat) (w : World) (hm : Byt m) (hn : Byt n) (hA : BytV a m w) (hB : BytV b n w) (hG : Glob0 w) :
    Calls Tryd.prog 3 #[.slice a m.length c, .slice b n.length d] w fun e w' => e = .returned (.bool true) ∧ Below w.heap.size w w' := by
  have CW := Lib.hid (fun W hG => works_any W hG)
  have HG := Lib.hid hG
  have HA := Lib.hid hA
  have HB := Lib.hid hB
  clear hG hA hB
  by_cases hl : 100 < m.length ∨ 100 < n.length
  · have hl' : 100 < (m.length : Int) ∨ ((m.length : Int) ≤ 100 ∧ 100 < (n.length : Int)) := by omega
    clear hl HA HB
    generalize m.length = L at *
    generalize n.length = M at *
    rcases hl' with h | ⟨h, h2⟩
    all_goals
      go_enter Tryd.func3, Tryd.ntmps3
      go_wp2_with (go_at_call 8; refine (CW.out _ HG.out).mono ?_; rintro e w1 ⟨rfl, hb⟩)
      go_ret
      exact ⟨rfl, hb⟩
  · have h1 : (m.length : Int) ≤ 100 := by omega
    have h2 : (n.length : Int) ≤ 100 := by omega
    have CD := Lib.hid (fun W x h1 h2 hA => Digest_small x c a m W h1 h2 hm (by omega) hA)
    have CE := Lib.hid (fun W x h1 h2 hA => Digest_small x d b n W h1 h2 hn (by omega) hA)
    have CS := Lib.hid (fun W hA hB => same_any a b c d m n W hm hn hA hB)
    have hmx : ((max m.length n.length : Nat) : Int) = max (m.length : Int) n.length := by omega
    have CK := Lib.hid (fun W => Words_small (max m.length n.length) W (by omega))
    rw [hmx] at CK
    have HMX := Lib.hid hmx
    clear hmx
    have hfew : Hid (m ≠ n → (rts (hits m n 0) 256).length ≤ max m.length n.length + 2) := fun hne => hits_few hm hn hne 0
    have hall : Hid (m = n → (rts (hits m n 0) 256).length = 256) := fun e => rts_all fun k _ _ => by rw [hits_eq, e]; simp
    have hst := Lib.hid (fun k => rts_more (hits m n 0) k)
    have hle := Lib.hid (fun k => rts_le (hits m n 0) k)
    have hhit := Lib.hid (fun k : Nat => hits_eq (a := m) (b := n) (x := k))
    have hd1 := Lib.hid (fun k => dig_lt k m)
    have hd2 := Lib.hid (fun k => dig_lt k n)
    clear hl
    go_enter Tryd.func3, Tryd.ntmps3
    go_wp2_with fail
    go_loopw [5, 6, 7, 8, 9, 10] (fun v x _ _ _ _ wr => ∃ k : Nat, k ≤ 256 ∧ x = .int .u64 ((k : Int) + 1) ∧ v = .int .i64 ((rts (hits m n 0) k).length : Nat) ∧ Below w.heap.size w wr) (fun _ x _ _ _ _ _ => 257 - (intOf x).toNat)
    case atStart => exact ⟨0, by omega, by simp, by simp [rts], Below.refl _ _⟩
    case round =>
      obtain ⟨k, hk, rfl, rfl, kB⟩ := hrel
      by_cases hlt : k < 256
      · have hx : (k : Int) + 1 = ((k + 1 : Nat) : Int) := by omega
        have hs := hst.out k
        rw [hhit.out] at hs
        have b1 := hd1.out (k + 1)
        have b2 := hd2.out (k + 1)
        have b3 := hle.out k
        have C1 := Lib.hid (fun W hA => CD.out W (k + 1) (by omega) (by omega) hA)
        have C2 := Lib.hid (fun W hA => CE.out W (k + 1) (by omega) (by omega) hA)
        rw [hx]
        have hk1 : k + 1 ≤ 256 := by omega
        have hk2 : ((k + 1 : Nat) : Int) < 257 := by omega
        have HK := Lib.hid (show ((k + 1 : Nat) : Int) = (k : Int) + 1 by omega)
        generalize hN : (rts (hits m n 0) k).length = N at *
        generalize hN2 : (rts (hits m n 0) (k + 1)).length = N2 at *
        generalize dig 257 1 (k + 1) m = p at *
        generalize dig 257 1 (k + 1) n = q at *
        have HN2 := Lib.hid hN2
        clear hN hN2 hx
        by_cases hpq : p = q
        · subst hpq
          have HS : Hid (N2 = N + 1) := by unfold Hid; simpa using hs
          clear hs
          generalize k + 1 = k1 at *
          go_wp2_with (first
            | (go_at_call 9; with_reducible refine (C1.out _ (HA.out.step kB)).mono ?_; rintro e w1 ⟨rfl, hb1⟩; have K1 := bStep kB hb1)
            | (go_at_call 9; with_reducible refine (C2.out _ (HB.out.step K1)).mono ?_; rintro e w2 ⟨rfl, hb2⟩; have K2 := bStep K1 hb2))
          go_roundw
          case rel => exact ⟨k1, by omega, by first | rfl | (simp; done), by rw [HN2.out, HS.out]; first | rfl | (push_cast; rfl), K2⟩
          case measure => simp [intOf]; omega
        · have hpq' : (p : Int) ≠ q := by omega
          have HS : Hid (N2 = N) := by unfold Hid; simpa [hpq] using hs
          clear hs hpq
          generalize k + 1 = k1 at *
          go_wp2_with (first
            | (go_at_call 9; with_reducible refine (C1.out _ (HA.out.step kB)).mono ?_; rintro e w1 ⟨rfl, hb1⟩; have K1 := bStep kB hb1)
            | (go_at_call 9; with_reducible refine (C2.out _ (HB.out.step K1)).mono ?_; rintro e w2 ⟨rfl, hb2⟩; have K2 := bStep K1 hb2))
          go_roundw
          case rel => exact ⟨k1, by omega, by first | rfl | (simp; done), by rw [HN2.out, HS.out], K2⟩
          case measure => simp [intOf]; omega
      · have hk2 : k = 256 := by omega
        have hx : (k : Int) + 1 = 257 := by omega
        rw [hx]
        have hN3 := hle.out k
        rw [hk2] at hN3 ⊢
        clear hst hle hhit hd1 hd2 CD CE hx hk2 hlt hk k
        generalize (rts (hits m n 0) 256).length = N at *
        by_cases hmn : m = n
        · have hN : (N : Int) = 256 := by have := hall.out hmn; omega
          rw [hN]
          have CS' : Hid (∀ W, BytV a m W → BytV b n W → Calls Tryd.prog 11 #[.slice a m.length c, .slice b n.length d] W fun e w' => e = .returned (.bool true) ∧ Below W.heap.size W w') := fun W h1 h2 => by
            have := CS.out W h1 h2
            rwa [decide_eq_true hmn] at this
          clear CS hall hfew hmn hN hN3 HMX
          go_wp2_with (first
            | (go_at_call 10; refine (CK.out _).mono ?_; rintro e w1 ⟨rfl, hb1⟩; have K1 := bStep kB hb1)
            | (go_at_call 11; refine (CS'.out _ (HA.out.step K1) (HB.out.step K1)).mono ?_; rintro e w2 ⟨rfl, hb2⟩; have K2 := bStep K1 hb2)
            | (go_at_call 8; refine (CW.out _ (glob_step HG.out K2)).mono ?_; rintro e w3 ⟨rfl, hb3⟩))
          go_ret
          exact ⟨rfl, bStep K2 hb3⟩
        · have hN : (N : Int) ≤ max (m.length : Int) n.length + 2 := by have := hfew.out hmn; have := HMX.out; omega
          have CS' : Hid (∀ W, BytV a m W → BytV b n W → Calls Tryd.prog 11 #[.slice a m.length c, .slice b n.length d] W fun e w' => e = .returned (.bool false) ∧ Below W.heap.size W w') := fun W h1 h2 => by
            have := CS.out W h1 h2
            rwa [decide_eq_false hmn] at this
          clear CS hall hfew hmn HMX
          go_wp2_with (first
            | (go_at_call 10; refine (CK.out _).mono ?_; rintro e w1 ⟨rfl, hb1⟩; have K1 := bStep kB hb1)
            | (go_at_call 11; refine (CS'.out _ (HA.out.step K1) (HB.out.step K1)).mono ?_; rintro e w2 ⟨rfl, hb2⟩; have K2 := bStep K1 hb2)
            | (go_at_call 8; refine (CW.out _ (glob_step HG.out K2)).mono ?_; rintro e w3 ⟨rfl, hb3⟩))
          go_ret
          exact ⟨rfl, bStep K2 hb3⟩
end Go.Proofs.YtlhponankanlmaaDoor
