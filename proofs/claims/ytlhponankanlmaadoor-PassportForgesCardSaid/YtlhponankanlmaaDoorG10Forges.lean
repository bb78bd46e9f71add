/-
  same: two rows of bytes are equal.
-/
import Derived.Test.YtlhponankanlmaaDoorG2Forges
import Derived.Laws.IdiomStrings
import Derived.Laws.BytesArg
import Derived.Test.YtlhponankanlmaaDoorG9Forges
set_option linter.unusedSimpArgs false
set_option linter.unusedVariables false
namespace Go.Proofs.YtlhponankanlmaaDoor
open Go.RowKit

def bys (m : List Nat) : List UInt8 := m.map UInt8.ofNat
theorem bys_inj {m n : List Nat} (hm : Byt m) (hn : Byt n) : bys m = bys n ↔ m = n := by
  constructor
  · intro h
    have h1 : (bys m).map UInt8.toNat = (bys n).map UInt8.toNat := by rw [h]
    have e : ∀ l : List Nat, Byt l → (bys l).map UInt8.toNat = l := fun l hl => by
      unfold bys
      rw [List.map_map]
      apply List.ext_getElem (by simp)
      intro j h1 h2
      have := hl j
      rw [List.getD_eq_getElem?_getD, List.getElem?_eq_getElem h2] at this
      simp only [Option.getD_some] at this
      simp [Nat.mod_eq_of_lt this]
    rw [e m hm, e n hn] at h1
    exact h1
  · rintro rfl; rfl
theorem conv_bytes {a : Option Addr} {m : List Nat} {W : World} (hB : Byt m) (hA : BytV a m W) (c : Nat) : (convert 22 9 (.slice a m.length c)).run Tryd.prog W = .ok (.string ⟨(bys m).toArray⟩) W := by
  cases a with
  | none =>
    have hm : m = [] := by
      by_cases h : m = []
      · exact h
      · obtain ⟨b, off, h1, _⟩ := hA h; cases h1
    subst hm
    exact run_convert_bytes_nil W 22 5 Tryd.underlying22 Tryd.underlying5 _ _ 9 Tryd.underlying9
  | some p =>
    have h := run_convert_bytes_back (P := Tryd.prog) W 22 9 5 p c (bys m) Tryd.underlying22 Tryd.underlying5 Tryd.underlying9 (fun j hj => by
      have hj2 : j < m.length := by simpa [bys] using hj
      obtain ⟨b, off, h1, _, h3⟩ := hA (fun e => by rw [e] at hj2; simp at hj2)
      obtain rfl := Option.some.inj h1
      have hadd : ((⟨b, off, none⟩ : Addr).add j) = ⟨b, off + j, none⟩ := by simp [Addr.add]
      rw [hadd, h3 j hj2]
      have := hB j
      rw [List.getD_eq_getElem?_getD, List.getElem?_eq_getElem hj2] at this ⊢
      simp only [Option.getD_some] at this ⊢
      simp [bys, Nat.mod_eq_of_lt this])
    have e : (bys m).length = m.length := by simp [bys]
    rw [e] at h
    exact h
set_option maxRecDepth 20000 in
theorem same_any (a b : Option Addr) (c d : Nat) (m n : List Nat) (w : World) (hm : Byt m) (hn : Byt n) (hA : BytV a m w) (hB : BytV b n w) :
    Calls Tryd.prog 11 #[.slice a m.length c, .slice b n.length d] w fun e w' => e = .returned (.bool (decide (m = n))) ∧ Below w.heap.size w w' := by
  have e : decide (m = n) = decide (bys m = bys n) := by rw [decide_eq_decide]; exact (bys_inj hm hn).symm
  rw [e]
  have h1 := conv_bytes hm hA c
  have h2 := conv_bytes hn hB d
  generalize bys m = x at *
  generalize bys n = y at *
  generalize m.length = lm at *
  generalize n.length = ln at *
  clear hA hB hm hn e
  go_enter Tryd.func11, Tryd.ntmps11
  go_wp2
  go_ret
  have e : (x == y) = decide (x = y) := by by_cases h : x = y <;> simp [h]
  exact ⟨by rw [← e]; rfl, Below.refl _ _⟩
end Go.Proofs.YtlhponankanlmaaDoor

/-
  The walk of the law PassportForges.
-/
set_option linter.unusedSimpArgs false
set_option linter.unusedVariables false
namespace Go.Proofs.YtlhponankanlmaaDoor
open Sx Go.RowKit

theorem digR_sm {x : Nat} {m : List Nat} (h1 : 1 ≤ x) (h2 : x ≤ 256) (hl : m.length ≤ 1000) : digR 0 x m = (dig 257 1 x m, 0) := by
  unfold digR
  rw [show fi 0 = some 0 from rfl]
  have e1 : ¬ (1000 < m.length) := by omega
  have e2 : ¬ (x < 1 ∨ prim 0 ≤ x) := by show ¬ (x < 1 ∨ 257 ≤ x); omega
  dsimp only
  rw [if_neg e1, if_neg e2]
  rfl
theorem tagR_sm {x p : Nat} {m : List Nat} (h1 : 1 ≤ x) (h2 : x ≤ 256) (hl : m.length ≤ 1000) (hp : p < 257) : tagR 0 x p m = ((dig 257 1 x m + p) % 257, 0) := by
  unfold tagR
  rw [show fi 0 = some 0 from rfl, digR_sm h1 h2 hl]
  dsimp only
  have e : ¬ (prim 0 ≤ p) := by show ¬ (257 ≤ p); omega
  rw [if_neg (by simp), if_neg e]
  rfl
theorem Words_sm (k : Nat) (w : World) (h2 : k ≤ 1000) :
    Calls Tryd.prog 10 #[.int .i64 0, .int .i64 k] w fun e w' => e = .returned (.tuple #[.int .i64 ((k : Int) + 2), .int .i64 0]) ∧ Below w.heap.size w w' := by
  have h := Words_any 0 k w (by omega) (by omega)
  have e : wordsR 0 k = ((k : Int) + 2, 0) := by
    unfold wordsR
    rw [show fi 0 = some 0 from rfl]
    have e1 : ¬ ((k : Int) < 0 ∨ 1000 < (k : Int)) := by omega
    dsimp only
    rw [if_neg e1]
    simp
  rw [e] at h
  exact h
def DigC (a : Option Addr) (c : Nat) (m : List Nat) : Prop := ∀ W x, 1 ≤ x → x ≤ 256 → BytV a m W →
  Calls Tryd.prog 9 #[.int .i64 0, .int .u64 (x : Nat), .slice a m.length c] W fun e w' => e = .returned (.tuple #[.int .u64 (dig 257 1 x m : Nat), .int .i64 0]) ∧ Below W.heap.size W w'
def TagC (a : Option Addr) (c : Nat) (m : List Nat) : Prop := ∀ W x p, 1 ≤ x → x ≤ 256 → p < 257 → BytV a m W →
  Calls Tryd.prog 16 #[.int .i64 0, .int .u64 (x : Nat), .int .u64 (p : Nat), .slice a m.length c] W fun e w' => e = .returned (.tuple #[.int .u64 ((dig 257 1 x m + p) % 257 : Nat), .int .i64 0]) ∧ Below W.heap.size W w'
theorem digC_any {a : Option Addr} {c : Nat} {m : List Nat} (hm : Byt m) (hl : m.length ≤ 1000) : DigC a c m := fun W x h1 h2 hA => by
  have h := Digest_any 0 x c a m W (by omega) hm (by omega) hA
  rw [digR_sm h1 h2 hl] at h
  exact h
theorem tagC_any {a : Option Addr} {c : Nat} {m : List Nat} (hm : Byt m) (hl : m.length ≤ 1000) : TagC a c m := fun W x p h1 h2 h3 hA => by
  have h := Tag_any 0 x p c a m W (by omega) (by omega) hm (by omega) hA
  rw [tagR_sm h1 h2 hl h3] at h
  exact h

set_option maxHeartbeats 2000000 in
set_option maxRecDepth 20000 in
theorem PassportForges_walk (a b : Option Addr) (c d : Nat) (m n : List Nat) (tag forged : Nat) (w : World) (ht : tag < 256) (hf : forged < 256) (hm : Byt m) (hn : Byt n) (hA : BytV a m w) (hB : BytV b n w) (hG : Glob0 w) :
    Calls Tryd.prog 6 #[.slice a m.length c, .slice b n.length d, .int .u8 tag, .int .u8 forged] w fun e w' => e = .returned (.bool true) ∧ Below w.heap.size w w' := by
  have CW := Lib.hid (fun W hG => works_any W hG)
  have HG := Lib.hid hG
  have HA := Lib.hid hA
  have HB := Lib.hid hB
  clear hG hA hB
  by_cases hl : 60 < m.length ∨ 60 < n.length
  · have hl' : 60 < (m.length : Int) ∨ ((m.length : Int) ≤ 60 ∧ 60 < (n.length : Int)) := by omega
    clear hl HA HB
    generalize m.length = L at *
    generalize n.length = M at *
    rcases hl' with h | ⟨h, h2⟩
    all_goals
      go_enter Tryd.func6, Tryd.ntmps6
      go_wp2_with (go_at_call 8; refine (CW.out _ HG.out).mono ?_; rintro e w1 ⟨rfl, hb⟩)
      go_ret
      exact ⟨rfl, hb⟩
  · have h1 : (m.length : Int) ≤ 60 := by omega
    have h2 : (n.length : Int) ≤ 60 := by omega
    have CD : Hid (DigC a c m) := digC_any hm (by omega)
    have CT : Hid (TagC a c m) := tagC_any hm (by omega)
    have CU : Hid (TagC b d n) := tagC_any hn (by omega)
    have hd1 := Lib.hid (fun k => dig_ltp (p := 257) (by decide) 1 k m)
    have hd2 := Lib.hid (fun k => dig_ltp (p := 257) (by decide) 1 k n)
    have hst := Lib.hid (fun j => rts_more (hitp 257 1 m n (tag - forged)) j)
    have hle := Lib.hid (fun j => rts_le (hitp 257 1 m n (tag - forged)) j)
    have hhit : Hid (∀ x, (hitp 257 1 m n (tag - forged) x = true) ↔ (dig 257 1 x n + (257 + tag - dig 257 1 x m) % 257) % 257 = forged) := fun x => by
      unfold hitp
      rw [decide_eq_true_iff]
      have := hd1.out x
      have := hd2.out x
      omega
    have hsame : ∀ x, hitp 257 1 m n (tag - forged) x = hits n m (tag - forged) x := fun x => rfl
    have hEq : Hid (∀ N, (rts (hitp 257 1 m n (tag - forged)) 256).length = N → m = n → tag = forged → N = 256) := fun N hN e1 e2 => by
      rw [← hN]
      refine rts_all fun x _ _ => ?_
      rw [hsame, e1, e2]
      simp [hits]
    have hZe : Hid (∀ N, (rts (hitp 257 1 m n (tag - forged)) 256).length = N → m = n → ¬ tag = forged → N = 0) := fun N hN e1 e2 => by
      rw [← hN]
      refine rts_none fun x _ _ => ?_
      rw [hsame, e1]
      simp only [hits, decide_eq_false_iff_not]
      omega
    have hNe : Hid (∀ N, (rts (hitp 257 1 m n (tag - forged)) 256).length = N → ¬ m = n → N ≤ max m.length n.length + 2) := fun N hN e => by
      have h := hits_few hn hm (fun e2 => e e2.symm) (tag - forged)
      rw [← hN, Nat.max_comm]
      exact h
    have CF0 : Hid (∀ N, (rts (hitp 257 1 m n (tag - forged)) 256).length = N → ∀ W, BytV a m W → BytV b n W → Calls Tryd.prog 12 #[.int .i64 0, .slice a m.length c, .int .u64 (tag : Nat), .slice b n.length d, .int .u64 (forged : Nat)] W fun e w' => e = .returned (.tuple #[.int .i64 (N : Nat), .int .i64 0]) ∧ Below W.heap.size W w') := fun N hN W hA hB => by
      have h := Fits_any 0 a b c d m n tag forged W (by omega) (by omega) hm hn (by omega) (by omega) hA hB
      have e : fitsR 0 m n tag forged = ((N : Int), 0) := by
        unfold fitsR fitsP
        rw [show fi 0 = some 0 from rfl]
        dsimp only
        rw [if_neg (by omega), if_neg (by omega), if_neg (by show ¬ (257 ≤ tag ∨ 257 ≤ forged); omega), ← hN]
        rfl
      rw [e] at h
      exact h
    have CS := Lib.hid (fun W hA hB => same_any a b c d m n W hm hn hA hB)
    have hmx : ((max m.length n.length : Nat) : Int) = max (m.length : Int) n.length := by omega
    have CK := Lib.hid (fun W => Words_sm (max m.length n.length) W (by omega))
    rw [hmx] at CK
    have HMX := Lib.hid hmx
    clear hmx hsame
    generalize hF : hitp 257 1 m n (tag - forged) = F at *
    have HF := Lib.hid hF
    clear hl hF
    go_enter Tryd.func6, Tryd.ntmps6
    go_wp2_with fail
    go_loopw [9, 10, 11, 12, 13, 14, 15, 16, 17] (fun v u x _ _ _ _ _ _ wr => ∃ k : Nat, k ≤ 256 ∧ v = .int .i64 k ∧ u = .int .i64 ((rts F k).length : Nat) ∧ x = .int .u64 ((k : Int) + 1) ∧ Below w.heap.size w wr) (fun _ _ x _ _ _ _ _ _ _ => 257 - (intOf x).toNat)
    case atStart => exact ⟨0, by omega, by simp, by simp [rts], by simp, Below.refl _ _⟩
    case round =>
      obtain ⟨k, hk, rfl, rfl, rfl, kB⟩ := hrel
      by_cases hlt : k < 256
      · have hx : (k : Int) + 1 = ((k + 1 : Nat) : Int) := by omega
        have hs := hst.out k
        have hh := hhit.out (k + 1)
        have b1 := hd1.out (k + 1)
        have b2 := hd2.out (k + 1)
        have b3 := hle.out k
        have C1 := Lib.hid (fun W hA => CD.out W (k + 1) (by omega) (by omega) hA)
        have C2 := Lib.hid (fun W p hp hA => CT.out W (k + 1) p (by omega) (by omega) hp hA)
        have C3 := Lib.hid (fun W p hp hA => CU.out W (k + 1) p (by omega) (by omega) hp hA)
        rw [hx]
        clear hx
        have hk1 : k + 1 ≤ 256 := by omega
        have hk2 : ((k + 1 : Nat) : Int) < 257 := by omega
        have hk3 : (k : Int) < 256 := by omega
        have HK := Lib.hid (show ((k + 1 : Nat) : Int) = (k : Int) + 1 by omega)
        generalize hN : (rts F k).length = N at *
        generalize hN2 : (rts F (k + 1)).length = N2 at *
        generalize dig 257 1 (k + 1) m = p at *
        generalize dig 257 1 (k + 1) n = q at *
        generalize F (k + 1) = bb at *
        have HN2 := Lib.hid hN2
        have HS := Lib.hid hs
        have HH := Lib.hid hh
        clear hN hN2 hs hh
        generalize k + 1 = k1 at *
        have b1' : (p : Int) < 257 := by omega
        have ep : (((257 + tag - p) % 257 : Nat) : Int) = (257 + (tag : Int) - p) % 257 := by omega
        have C4 : Hid (∀ W, BytV a m W → Calls Tryd.prog 16 #[.int .i64 0, .int .u64 (k1 : Nat), .int .u64 ((257 + (tag : Int) - p) % 257), .slice a m.length c] W fun e w' => e = .returned (.tuple #[.int .u64 (tag : Nat), .int .i64 0]) ∧ Below W.heap.size W w') := fun W hA => by
          have h := C2.out W ((257 + tag - p) % 257) (by omega) hA
          rw [ep, show (p + (257 + tag - p) % 257) % 257 = tag by omega] at h
          exact h
        have C5 : Hid (∀ W, BytV b n W → Calls Tryd.prog 16 #[.int .i64 0, .int .u64 (k1 : Nat), .int .u64 ((257 + (tag : Int) - p) % 257), .slice b n.length d] W fun e w' => e = .returned (.tuple #[.int .u64 ((q + (257 + tag - p) % 257) % 257 : Nat), .int .i64 0]) ∧ Below W.heap.size W w') := fun W hA => by
          have h := C3.out W ((257 + tag - p) % 257) (by omega) hA
          rw [ep] at h
          exact h
        have hu : (q + (257 + tag - p) % 257) % 257 < 257 := by omega
        generalize (q + (257 + tag - p) % 257) % 257 = u at *
        clear ep C2 C3 hk3
        by_cases hb5 : bb = true
        · have hu5 : u = forged := HH.out.1 hb5
          have hs5 := HS.out
          rw [hb5] at hs5
          have HS5 : Hid (N2 = N + 1) := by unfold Hid; simpa using hs5
          subst hu5
          clear hb5 hs5 HS HH
          go_wp2_with (first
            | (go_at_call 9; with_reducible refine (C1.out _ (HA.out.step kB)).mono ?_; rintro e w1 ⟨rfl, hb1⟩; have K1 := bStep kB hb1)
            | (go_at_call 16; with_reducible refine (C4.out _ (HA.out.step K1)).mono ?_; rintro e w2 ⟨rfl, hb2⟩; have K2 := bStep K1 hb2)
            | (go_at_call 16; with_reducible refine (C5.out _ (HB.out.step K2)).mono ?_; rintro e w3 ⟨rfl, hb3⟩; have K3 := bStep K2 hb3))
          go_roundw
          case rel => exact ⟨k1, by omega, by rw [HK.out], by rw [HN2.out, HS5.out]; first | rfl | (push_cast; rfl), rfl, K3⟩
          case measure => simp [intOf]; omega
        · have hu5 : ¬ u = forged := fun e => hb5 (HH.out.2 e)
          have hu6 : ((u : Int) == forged) = false := by simp; omega
          have hs5 := HS.out
          have HS5 : Hid (N2 = N) := by unfold Hid; simpa [hb5] using hs5
          clear hb5 hs5 HS HH hu5
          go_wp2_with (first
            | (go_at_call 9; with_reducible refine (C1.out _ (HA.out.step kB)).mono ?_; rintro e w1 ⟨rfl, hb1⟩; have K1 := bStep kB hb1)
            | (go_at_call 16; with_reducible refine (C4.out _ (HA.out.step K1)).mono ?_; rintro e w2 ⟨rfl, hb2⟩; have K2 := bStep K1 hb2)
            | (go_at_call 16; with_reducible refine (C5.out _ (HB.out.step K2)).mono ?_; rintro e w3 ⟨rfl, hb3⟩; have K3 := bStep K2 hb3))
          go_roundw
          case rel => exact ⟨k1, by omega, by rw [HK.out], by rw [HN2.out, HS5.out], rfl, K3⟩
          case measure => simp [intOf]; omega
      · have hk2 : k = 256 := by omega
        have hx : (k : Int) + 1 = 257 := by omega
        have hx2 : (k : Int) = 256 := by omega
        rw [hx, hx2, hk2]
        have hN3 := hle.out 256
        clear hst hle hhit hd1 hd2 CD CT CU hx hx2 hk2 hlt hk HF
        generalize hN : (rts F 256).length = N at *
        have hN0 := hEq.out N rfl
        have hN1 := hNe.out N rfl
        have hN2 := hZe.out N rfl
        have CF := Lib.hid (CF0.out N rfl)
        clear hN hEq hNe hZe CF0
        by_cases hmn : m = n
        · have CS' : Hid (∀ W, BytV a m W → BytV b n W → Calls Tryd.prog 11 #[.slice a m.length c, .slice b n.length d] W fun e w' => e = .returned (.bool true) ∧ Below W.heap.size W w') := fun W h1 h2 => by
            have := CS.out W h1 h2
            rwa [decide_eq_true hmn] at this
          by_cases htf : tag = forged
          · have e := hN0 hmn htf
            subst htf
            have e2 : (N : Int) = 256 := by omega
            rw [e2] at CF ⊢
            clear CS hmn hN0 hN1 hN2 e e2 hN3 HMX
            go_wp2_with (first
              | (go_at_call 12; refine (CF.out _ (HA.out.step kB) (HB.out.step kB)).mono ?_; rintro e w1 ⟨rfl, hb1⟩; have K1 := bStep kB hb1)
              | (go_at_call 10; refine (CK.out _).mono ?_; rintro e w2 ⟨rfl, hb2⟩; have K2 := bStep K1 hb2)
              | (go_at_call 11; refine (CS'.out _ (HA.out.step K2) (HB.out.step K2)).mono ?_; rintro e w3 ⟨rfl, hb3⟩; have K3 := bStep K2 hb3)
              | (go_at_call 8; refine (CW.out _ (glob_step HG.out K3)).mono ?_; rintro e w4 ⟨rfl, hb4⟩))
            go_ret
            exact ⟨rfl, bStep K3 hb4⟩
          · have e := hN2 hmn htf
            have e2 : (N : Int) = 0 := by omega
            rw [e2] at CF ⊢
            have htf1 : ¬ ((tag : Int) = forged) := by omega
            have htf2 : ((tag : Int) == forged) = false := by simp; omega
            have htf3 : (tag == forged) = false := by simp; omega
            clear CS hmn hN0 hN1 hN2 e e2 hN3 HMX
            go_wp2_with (first
              | (go_at_call 12; refine (CF.out _ (HA.out.step kB) (HB.out.step kB)).mono ?_; rintro e w1 ⟨rfl, hb1⟩; have K1 := bStep kB hb1)
              | (go_at_call 10; refine (CK.out _).mono ?_; rintro e w2 ⟨rfl, hb2⟩; have K2 := bStep K1 hb2)
              | (go_at_call 11; refine (CS'.out _ (HA.out.step K2) (HB.out.step K2)).mono ?_; rintro e w3 ⟨rfl, hb3⟩; have K3 := bStep K2 hb3)
              | (go_at_call 8; refine (CW.out _ (glob_step HG.out K3)).mono ?_; rintro e w4 ⟨rfl, hb4⟩))
            go_ret
            have htf4 : ((tag : Int) != forged) = true := by simp; omega
            exact ⟨by first | rfl | (rw [← htf4]; rfl) | (simp [htf4]; done), bStep K3 hb4⟩
        · have hN : (N : Int) ≤ max (m.length : Int) n.length + 2 := by have := hN1 hmn; have := HMX.out; omega
          have CS' : Hid (∀ W, BytV a m W → BytV b n W → Calls Tryd.prog 11 #[.slice a m.length c, .slice b n.length d] W fun e w' => e = .returned (.bool false) ∧ Below W.heap.size W w') := fun W h1 h2 => by
            have := CS.out W h1 h2
            rwa [decide_eq_false hmn] at this
          clear CS hN0 hN1 hN2 hmn HMX
          go_wp2_with (first
            | (go_at_call 12; refine (CF.out _ (HA.out.step kB) (HB.out.step kB)).mono ?_; rintro e w1 ⟨rfl, hb1⟩; have K1 := bStep kB hb1)
            | (go_at_call 10; refine (CK.out _).mono ?_; rintro e w2 ⟨rfl, hb2⟩; have K2 := bStep K1 hb2)
            | (go_at_call 11; refine (CS'.out _ (HA.out.step K2) (HB.out.step K2)).mono ?_; rintro e w3 ⟨rfl, hb3⟩; have K3 := bStep K2 hb3)
            | (go_at_call 8; refine (CW.out _ (glob_step HG.out K3)).mono ?_; rintro e w4 ⟨rfl, hb4⟩))
          go_ret
          exact ⟨rfl, bStep K3 hb4⟩
end Go.Proofs.YtlhponankanlmaaDoor
