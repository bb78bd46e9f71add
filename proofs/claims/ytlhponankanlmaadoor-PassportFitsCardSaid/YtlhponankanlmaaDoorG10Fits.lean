/-
  The reference's Fits.
-/
import Derived.Test.YtlhponankanlmaaDoorG9Fits
import Derived.Test.YtlhponankanlmaaDoorG2Fits
set_option linter.unusedSimpArgs false
set_option linter.unusedVariables false
namespace Go.Proofs.YtlhponankanlmaaDoor
open Go.RowKit

theorem fit_eq2 {P D E t g : Nat} (hP : P < 2147483648) (hD : D < P) (hE : E < P) (ht : t < P) (hg : g < P) :
    ((IntKind.u64.wrap ((E : Int) + (IntKind.u64.wrap (IntKind.u64.wrap ((t : Int) + P) - D)).tmod P)).tmod P = (g : Int)) ↔ ((E : Int) - D + ((t : Int) - g)) % P = 0 := by
  have e2 : IntKind.u64.wrap ((t : Int) + P - D) = (t : Int) + P - D := Go.IntWalk.u64_in _ ⟨by omega, by omega⟩
  rw [show IntKind.u64.wrap ((t : Int) + P) = (t : Int) + P from Go.IntWalk.u64_in _ ⟨by omega, by omega⟩, e2, Int.tmod_eq_emod_of_nonneg (show 0 ≤ (t : Int) + P - D by omega)]
  have h1 := Int.emod_nonneg ((t : Int) + P - D) (show (P : Int) ≠ 0 by omega)
  have h2 := Int.emod_lt_of_pos ((t : Int) + P - D) (show (0 : Int) < P by omega)
  have e3 : IntKind.u64.wrap ((E : Int) + ((t : Int) + P - D) % P) = (E : Int) + ((t : Int) + P - D) % P := Go.IntWalk.u64_in _ ⟨by omega, by omega⟩
  rw [e3, Int.tmod_eq_emod_of_nonneg (show 0 ≤ (E : Int) + ((t : Int) + P - D) % P by omega)]
  have e4 : ((E : Int) + ((t : Int) + P - D) % P) % P = ((E : Int) - D + t) % P := by
    rw [Int.add_emod_emod, show (E : Int) + ((t : Int) + P - D) = ((E : Int) - D + t) + P by omega, Int.add_emod_right]
  have e5 : (g : Int) = (g : Int) % P := (Int.emod_eq_of_lt (by omega) (by omega)).symm
  rw [e4, e5, Int.emod_eq_emod_iff_emod_sub_eq_zero, ← e5]
  rw [show (E : Int) - D + t - g = (E : Int) - D + ((t : Int) - g) by omega]

def SumC (P b : Nat) (n : Int) (a : Option Addr) (c : Nat) (m : List Nat) : Prop := ∀ W x, x < P → BytV a m W →
  Calls Tryd.prog 24 #[.int .i64 n, .int .u64 (x : Nat), .slice a m.length c] W fun e w' => e = .returned (.int .u64 (dig P b x m)) ∧ Below W.heap.size W w'
def PrimC (P : Nat) (n : Int) : Prop := ∀ W, Calls Tryd.prog 23 #[.int .i64 n] W fun e w' => e = .returned (.int .u64 P) ∧ W = w'
set_option maxHeartbeats 2000000 in
set_option maxRecDepth 20000 in
theorem RFits_in (n : Int) (hn : n = 0 ∨ n = 1) (P b : Nat) (hP : 257 ≤ P ∧ P < 2147483648) (a o : Option Addr) (c d : Nat) (m k : List Nat) (tag forged : Nat) (w : World) (CP : Hid (PrimC P n)) (CD : Hid (SumC P b n a c m)) (CE : Hid (SumC P b n o d k)) (ht : tag < 18446744073709551616) (hf : forged < 18446744073709551616) (HA : Hid (BytV a m w)) (HB : Hid (BytV o k w)) :
    ∀ r : Int × Int, r = fitsP P b m k tag forged →
    Calls Tryd.prog 13 #[.int .i64 n, .slice a m.length c, .int .u64 tag, .slice o k.length d, .int .u64 forged] w fun e w' => e = .returned (.tuple #[.int .i64 r.1, .int .i64 r.2]) ∧ Below w.heap.size w w' := by
  intro r hr
  unfold fitsP at hr
  by_cases hl : 1000 < m.length ∨ 1000 < k.length
  · rw [if_pos hl] at hr
    subst hr
    have hl2 : 1000 < (m.length : Int) ∨ ((m.length : Int) ≤ 1000 ∧ 1000 < (k.length : Int)) := by omega
    clear hl CD CE HA HB
    generalize m.length = L at *
    generalize k.length = M at *
    rcases hl2 with h1 | ⟨h1, h2⟩ <;> rcases hn with rfl | rfl
    all_goals
      go_enter Tryd.func13, Tryd.ntmps13
      go_wp2_with fail
      exact bodyPost_ret (v := .tuple #[.int .i64 0, .int .i64 7]) (by simp only [results, Tryd.results13]; go_simp) rfl ⟨rfl, (by repeat' (first | exact Below.refl _ _ | assumption | apply bDrewN | apply bDrew | apply bAlloc | (refine bSet ?_ ?_ _) | (refine bStep ?_ (by assumption)) | omega | (simp <;> omega)))⟩
  · rw [if_neg hl] at hr
    have hl1 : (m.length : Int) ≤ 1000 := by omega
    have hl2 : (k.length : Int) ≤ 1000 := by omega
    clear hl
    by_cases hp : P ≤ tag ∨ P ≤ forged
    · rw [if_pos hp] at hr
      subst hr
      have hp2 : (P : Int) ≤ tag ∨ ((tag : Int) < P ∧ (P : Int) ≤ forged) := by omega
      clear hp CD CE HA HB
      generalize m.length = L at *
      generalize k.length = M at *
      rcases hp2 with h1 | ⟨h1, h2⟩ <;> rcases hn with rfl | rfl
      all_goals
        go_enter Tryd.func13, Tryd.ntmps13
        go_wp2_with (go_at_call 23; refine (CP.out _).mono ?_; rintro e w1 ⟨rfl, rfl⟩)
        exact bodyPost_ret (v := .tuple #[.int .i64 0, .int .i64 3]) (by simp only [results, Tryd.results13]; go_simp) rfl ⟨rfl, (by repeat' (first | exact Below.refl _ _ | assumption | apply bDrewN | apply bDrew | apply bAlloc | (refine bSet ?_ ?_ _) | (refine bStep ?_ (by assumption)) | omega | (simp <;> omega)))⟩
    · rw [if_neg hp] at hr
      have hp1 : tag < P := by omega
      have hp2 : forged < P := by omega
      have hp3 : (tag : Int) < P := by omega
      have hp4 : (forged : Int) < P := by omega
      clear hp
      have hst := Lib.hid (fun j => rts_more (hitp P b m k (tag - forged)) j)
      have hhit : Hid (∀ x, (hitp P b m k (tag - forged) x = true) ↔ (IntKind.u64.wrap ((dig P b x k : Int) + (IntKind.u64.wrap (IntKind.u64.wrap ((tag : Int) + P) - dig P b x m)).tmod P)).tmod P = (forged : Int)) := fun x => by
        unfold hitp
        rw [decide_eq_true_iff]
        exact (fit_eq2 hP.2 (dig_ltp (by omega) b x m) (dig_ltp (by omega) b x k) hp1 hp2).symm
      have hle := Lib.hid (fun j => rts_le (hitp P b m k (tag - forged)) j)
      have hPz : P ≠ 0 := by omega
      have HR := Lib.hid hr
      clear hr
      generalize hF : hitp P b m k (tag - forged) = F at *
      clear hF
      rcases hn with rfl | rfl
      all_goals
        go_enter Tryd.func13, Tryd.ntmps13
        go_wp2_with (go_at_call 23; refine (CP.out _).mono ?_; rintro e w1 ⟨rfl, rfl⟩)
        rename ¬P ≤ tag ∧ ¬P ≤ forged => hz
        clear hz hp1 hp2 hp3 hp4
        go_loopw [13, 14, 15] (fun v x _ wr => ∃ j : Nat, j ≤ P - 1 ∧ x = .int .u64 ((j : Int) + 1) ∧ v = .int .i64 ((rts F j).length : Nat) ∧ Below w.heap.size w wr) (fun _ x _ _ => P - (intOf x).toNat)
        case atStart => exact ⟨0, by omega, by simp, by simp [rts], Below.refl _ _⟩
        case round =>
          obtain ⟨j, hj, rfl, rfl, kB⟩ := hrel
          by_cases hlt : j < P - 1
          · have hx : (j : Int) + 1 = ((j + 1 : Nat) : Int) := by omega
            rw [hx]
            clear hx
            have hs := hst.out j
            have hh := hhit.out (j + 1)
            have hle1 := hle.out j
            have C1 := Lib.hid (fun W h3 => CD.out W (j + 1) (by omega) h3)
            have C2 := Lib.hid (fun W h3 => CE.out W (j + 1) (by omega) h3)
            have hk1 : j + 1 ≤ P - 1 := by omega
            have hk2 : ((j + 1 : Nat) : Int) < P := by omega
            have HJ := Lib.hid (show ((j + 1 : Nat) : Int) = (j : Int) + 1 by omega)
            generalize hN : (rts F j).length = N at *
            generalize hN2 : (rts F (j + 1)).length = N2 at *
            have HN2 := Lib.hid hN2
            clear hN hN2
            generalize dig P b (j + 1) m = p at *
            generalize dig P b (j + 1) k = q at *
            generalize F (j + 1) = bb at *
            generalize j + 1 = j1 at *
            have HS := Lib.hid hs
            have HH := Lib.hid hh
            clear hs hh
            go_wp2_with (first
              | (go_at_call 24; with_reducible refine (C1.out _ (HA.out.step kB)).mono ?_; rintro e w1 ⟨rfl, hb1⟩; have K1 := bStep kB hb1)
              | (go_at_call 24; with_reducible refine (C2.out _ (HB.out.step K1)).mono ?_; rintro e w2 ⟨rfl, hb2⟩; have K2 := bStep K1 hb2))
            · rename_i hq
              have hb5 : bb = true := HH.out.2 (by simpa using hq)
              have hs5 := HS.out
              rw [hb5] at hs5
              go_roundw
              case rel => exact ⟨j1, hk1, rfl, by rw [HN2.out, hs5]; first | rfl | (push_cast; rfl), K2⟩
              case measure => simp [intOf]; omega
            · rename_i hq
              have hb5 : bb = false := by
                cases bb
                · rfl
                · have := HH.out.1 rfl
                  rw [this] at hq
                  simp at hq
              have hs5 := HS.out
              rw [hb5] at hs5
              go_roundw
              case rel => exact ⟨j1, hk1, rfl, by rw [HN2.out, hs5]; rfl, K2⟩
              case measure => simp [intOf]; omega
          · have hj2 : j = P - 1 := by omega
            have hx : (j : Int) + 1 = (P : Int) := by omega
            rw [hx, hj2]
            clear hx hst hle hhit CD CE hj2 hj hlt
            generalize (rts F (P - 1)).length = N at *
            go_wp2_with fail
            exact bodyPost_ret (v := .tuple #[.int .i64 (N : Nat), .int .i64 0]) (by simp only [results, Tryd.results13]; go_simp) rfl ⟨by rw [HR.out], kB⟩
set_option maxHeartbeats 2000000 in
set_option maxRecDepth 20000 in
theorem RFits_any (n : Int) (a o : Option Addr) (c d : Nat) (m k : List Nat) (tag forged : Nat) (w : World) (ht : tag < 18446744073709551616) (hf : forged < 18446744073709551616) (hm : Byt m) (hk : Byt k) (hlm : m.length ≤ 2000) (hlk : k.length ≤ 2000) (hA : BytV a m w) (hB : BytV o k w) :
    Calls Tryd.prog 13 #[.int .i64 n, .slice a m.length c, .int .u64 tag, .slice o k.length d, .int .u64 forged] w fun e w' => e = .returned (.tuple #[.int .i64 (fitsR n m k tag forged).1, .int .i64 (fitsR n m k tag forged).2]) ∧ Below w.heap.size w w' := by
  by_cases hn : n = 0 ∨ n = 1
  · obtain ⟨i, hi, he, hfi⟩ : ∃ i : Nat, i < 2 ∧ n = i ∧ fi n = some i := by
      rcases fi_cases n with ⟨h1, h2⟩ | ⟨i, hi, h1, h2⟩
      · omega
      · exact ⟨i, by omega, h1, h2⟩
    have e : fitsR n m k tag forged = fitsP (prim i) (i + 1) m k tag forged := by
      unfold fitsR
      rw [hfi]
      dsimp only
      rw [if_neg (show ¬ 2 ≤ i by omega)]
    refine RFits_in n hn (prim i) (i + 1) (prim_bd i) a o c d m k tag forged w ?_ ?_ ?_ ht hf hA hB _ e
    · intro W
      have h := Prime_any n W
      rw [hfi] at h
      exact h
    · intro W x hx hA; subst he; exact sum_any i (by omega) x c a m W hx hm hlm hA
    · intro W x hx hA; subst he; exact sum_any i (by omega) x d o k W hx hk hlk hA
  · have e : fitsR n m k tag forged = (0, 2) := by
      unfold fitsR
      rcases fi_cases n with ⟨h1, h2⟩ | ⟨i, hi, rfl, h2⟩
      · rw [h2]
      · rw [h2]
        dsimp only
        rw [if_pos (by omega)]
    rw [e]
    have h0 : (n != 0) = true := by simp; omega
    have h1 : (n != 1) = true := by simp; omega
    clear hA hB hn e
    generalize m.length = L at *
    generalize k.length = M at *
    go_enter Tryd.func13, Tryd.ntmps13
    go_wp2_with fail
    exact bodyPost_ret (v := .tuple #[.int .i64 0, .int .i64 2]) (by simp only [results, Tryd.results13]; go_simp) rfl ⟨rfl, (by repeat' (first | exact Below.refl _ _ | assumption | apply bDrewN | apply bDrew | apply bAlloc | (refine bSet ?_ ?_ _) | (refine bStep ?_ (by assumption)) | omega | (simp <;> omega)))⟩
end Go.Proofs.YtlhponankanlmaaDoor

/-
  The walk of the law PassportFits.
-/
set_option linter.unusedSimpArgs false
set_option linter.unusedVariables false
namespace Go.Proofs.YtlhponankanlmaaDoor
open Sx Go.RowKit

def true_works (W : World) : Prop := Calls Tryd.prog 8 #[] W fun e w' => e = .returned (.bool true) ∧ Below W.heap.size W w'
set_option maxRecDepth 20000 in
theorem fits_1a (f : Int) (a o : Option Addr) (c d L M : Nat) (tag forged : Nat) (w : World) (CW : Hid (∀ W, Glob0 W → true_works W)) (HG : Hid (Glob0 w)) (h1 : 1000 < (L : Int)) (h2 : 2000 < (L : Int)) :
    Calls Tryd.prog 4 #[.int .i64 f, .slice a L c, .int .u64 tag, .slice o M d, .int .u64 forged] w fun e w' => e = .returned (.bool true) ∧ Below w.heap.size w w' := by
  go_enter Tryd.func4, Tryd.ntmps4
  go_wp2_with (go_at_call 8; refine (CW.out _ HG.out).mono ?_; rintro e w7 ⟨rfl, hb7⟩)
  go_ret
  exact ⟨rfl, hb7⟩
set_option maxRecDepth 20000 in
theorem fits_1b (f : Int) (a o : Option Addr) (c d L M : Nat) (tag forged : Nat) (w : World) (CW : Hid (∀ W, Glob0 W → true_works W)) (HG : Hid (Glob0 w)) (h1 : 1000 < (L : Int)) (h2 : (L : Int) ≤ 2000) (h3 : 2000 < (M : Int)) :
    Calls Tryd.prog 4 #[.int .i64 f, .slice a L c, .int .u64 tag, .slice o M d, .int .u64 forged] w fun e w' => e = .returned (.bool true) ∧ Below w.heap.size w w' := by
  go_enter Tryd.func4, Tryd.ntmps4
  go_wp2_with (go_at_call 8; refine (CW.out _ HG.out).mono ?_; rintro e w7 ⟨rfl, hb7⟩)
  go_ret
  exact ⟨rfl, hb7⟩
set_option maxRecDepth 20000 in
theorem fits_2a (f : Int) (a o : Option Addr) (c d L M : Nat) (tag forged : Nat) (w : World) (CW : Hid (∀ W, Glob0 W → true_works W)) (HG : Hid (Glob0 w)) (h1 : (L : Int) ≤ 1000) (h2 : 1000 < (M : Int)) (h3 : 2000 < (M : Int)) (h4 : (L : Int) ≤ 2000) :
    Calls Tryd.prog 4 #[.int .i64 f, .slice a L c, .int .u64 tag, .slice o M d, .int .u64 forged] w fun e w' => e = .returned (.bool true) ∧ Below w.heap.size w w' := by
  go_enter Tryd.func4, Tryd.ntmps4
  go_wp2_with (go_at_call 8; refine (CW.out _ HG.out).mono ?_; rintro e w7 ⟨rfl, hb7⟩)
  go_ret
  exact ⟨rfl, hb7⟩
set_option maxRecDepth 20000 in
theorem fits_3a (f : Int) (a o : Option Addr) (c d L M : Nat) (tag forged : Nat) (w : World) (CW : Hid (∀ W, Glob0 W → true_works W)) (HG : Hid (Glob0 w)) (h1 : (L : Int) ≤ 1000) (h2 : (M : Int) ≤ 1000) (h3 : 40 < (L : Int)) :
    Calls Tryd.prog 4 #[.int .i64 f, .slice a L c, .int .u64 tag, .slice o M d, .int .u64 forged] w fun e w' => e = .returned (.bool true) ∧ Below w.heap.size w w' := by
  go_enter Tryd.func4, Tryd.ntmps4
  go_wp2_with (go_at_call 8; refine (CW.out _ HG.out).mono ?_; rintro e w7 ⟨rfl, hb7⟩)
  go_ret
  exact ⟨rfl, hb7⟩
set_option maxRecDepth 20000 in
theorem fits_3b (f : Int) (a o : Option Addr) (c d L M : Nat) (tag forged : Nat) (w : World) (CW : Hid (∀ W, Glob0 W → true_works W)) (HG : Hid (Glob0 w)) (h1 : (L : Int) ≤ 1000) (h2 : (M : Int) ≤ 1000) (h3 : (L : Int) ≤ 40) (h4 : 40 < (M : Int)) :
    Calls Tryd.prog 4 #[.int .i64 f, .slice a L c, .int .u64 tag, .slice o M d, .int .u64 forged] w fun e w' => e = .returned (.bool true) ∧ Below w.heap.size w w' := by
  go_enter Tryd.func4, Tryd.ntmps4
  go_wp2_with (go_at_call 8; refine (CW.out _ HG.out).mono ?_; rintro e w7 ⟨rfl, hb7⟩)
  go_ret
  exact ⟨rfl, hb7⟩
set_option maxRecDepth 20000 in
theorem fits_3d (f : Int) (a o : Option Addr) (c d L M : Nat) (tag forged : Nat) (w : World) (CW : Hid (∀ W, Glob0 W → true_works W)) (HG : Hid (Glob0 w)) (h1 : (L : Int) ≤ 1000) (h2 : (M : Int) ≤ 1000) (h3 : (L : Int) ≤ 40) (h4 : (M : Int) ≤ 40) (h5 : f = 1) (h6 : 8 < (L : Int) + M) :
    Calls Tryd.prog 4 #[.int .i64 f, .slice a L c, .int .u64 tag, .slice o M d, .int .u64 forged] w fun e w' => e = .returned (.bool true) ∧ Below w.heap.size w w' := by
  subst h5
  go_enter Tryd.func4, Tryd.ntmps4
  go_wp2_with (go_at_call 8; refine (CW.out _ HG.out).mono ?_; rintro e w7 ⟨rfl, hb7⟩)
  go_ret
  exact ⟨rfl, hb7⟩
set_option maxRecDepth 20000 in
theorem fits_1c (f : Int) (a o : Option Addr) (c d L M : Nat) (tag forged : Nat) (w : World) (CW : Hid (∀ W, Glob0 W → true_works W)) (HG : Hid (Glob0 w)) (S : World → Prop) (hS : Hid (∀ W W', S W → Below W.heap.size W W' → S W')) (HS : Hid (S w)) (r1 r2 : Int) (C1 : Hid (∀ W, S W → Calls Tryd.prog 12 #[.int .i64 f, .slice a L c, .int .u64 tag, .slice o M d, .int .u64 forged] W fun e w' => e = .returned (.tuple #[.int .i64 r1, .int .i64 r2]) ∧ Below W.heap.size W w')) (C2 : Hid (∀ W, S W → Calls Tryd.prog 13 #[.int .i64 f, .slice a L c, .int .u64 tag, .slice o M d, .int .u64 forged] W fun e w' => e = .returned (.tuple #[.int .i64 r1, .int .i64 r2]) ∧ Below W.heap.size W w')) (h1 : 1000 < (L : Int)) (h2 : (L : Int) ≤ 2000) (h3 : (M : Int) ≤ 2000) :
    Calls Tryd.prog 4 #[.int .i64 f, .slice a L c, .int .u64 tag, .slice o M d, .int .u64 forged] w fun e w' => e = .returned (.bool true) ∧ Below w.heap.size w w' := by
  go_enter Tryd.func4, Tryd.ntmps4
  go_wp2_with (first
    | (go_at_call 12; refine (C1.out _ HS.out).mono ?_; rintro e w1 ⟨rfl, hb1⟩; have K1 := hb1)
    | (go_at_call 13; refine (C2.out _ (hS.out _ _ HS.out K1)).mono ?_; rintro e w2 ⟨rfl, hb2⟩; have K2 := bStep K1 hb2)
    | (go_at_call 8; refine (CW.out _ (glob_step HG.out K2)).mono ?_; rintro e w7 ⟨rfl, hb7⟩))
  go_ret
  exact ⟨rfl, bStep K2 hb7⟩
set_option maxRecDepth 20000 in
theorem fits_2b (f : Int) (a o : Option Addr) (c d L M : Nat) (tag forged : Nat) (w : World) (CW : Hid (∀ W, Glob0 W → true_works W)) (HG : Hid (Glob0 w)) (S : World → Prop) (hS : Hid (∀ W W', S W → Below W.heap.size W W' → S W')) (HS : Hid (S w)) (r1 r2 : Int) (C1 : Hid (∀ W, S W → Calls Tryd.prog 12 #[.int .i64 f, .slice a L c, .int .u64 tag, .slice o M d, .int .u64 forged] W fun e w' => e = .returned (.tuple #[.int .i64 r1, .int .i64 r2]) ∧ Below W.heap.size W w')) (C2 : Hid (∀ W, S W → Calls Tryd.prog 13 #[.int .i64 f, .slice a L c, .int .u64 tag, .slice o M d, .int .u64 forged] W fun e w' => e = .returned (.tuple #[.int .i64 r1, .int .i64 r2]) ∧ Below W.heap.size W w')) (h1 : (L : Int) ≤ 1000) (h2 : 1000 < (M : Int)) (h3 : (M : Int) ≤ 2000) (h4 : (L : Int) ≤ 2000) :
    Calls Tryd.prog 4 #[.int .i64 f, .slice a L c, .int .u64 tag, .slice o M d, .int .u64 forged] w fun e w' => e = .returned (.bool true) ∧ Below w.heap.size w w' := by
  go_enter Tryd.func4, Tryd.ntmps4
  go_wp2_with (first
    | (go_at_call 12; refine (C1.out _ HS.out).mono ?_; rintro e w1 ⟨rfl, hb1⟩; have K1 := hb1)
    | (go_at_call 13; refine (C2.out _ (hS.out _ _ HS.out K1)).mono ?_; rintro e w2 ⟨rfl, hb2⟩; have K2 := bStep K1 hb2)
    | (go_at_call 8; refine (CW.out _ (glob_step HG.out K2)).mono ?_; rintro e w7 ⟨rfl, hb7⟩))
  go_ret
  exact ⟨rfl, bStep K2 hb7⟩
set_option maxRecDepth 20000 in
theorem fits_3c (f : Int) (a o : Option Addr) (c d L M : Nat) (tag forged : Nat) (w : World) (CW : Hid (∀ W, Glob0 W → true_works W)) (HG : Hid (Glob0 w)) (S : World → Prop) (hS : Hid (∀ W W', S W → Below W.heap.size W W' → S W')) (HS : Hid (S w)) (r1 r2 : Int) (C1 : Hid (∀ W, S W → Calls Tryd.prog 12 #[.int .i64 f, .slice a L c, .int .u64 tag, .slice o M d, .int .u64 forged] W fun e w' => e = .returned (.tuple #[.int .i64 r1, .int .i64 r2]) ∧ Below W.heap.size W w')) (C2 : Hid (∀ W, S W → Calls Tryd.prog 13 #[.int .i64 f, .slice a L c, .int .u64 tag, .slice o M d, .int .u64 forged] W fun e w' => e = .returned (.tuple #[.int .i64 r1, .int .i64 r2]) ∧ Below W.heap.size W w')) (h1 : (L : Int) ≤ 1000) (h2 : (M : Int) ≤ 1000) (h3 : (L : Int) ≤ 40) (h4 : (M : Int) ≤ 40) (h5 : (f == 1) = false) (h7 : (L : Int) ≤ 2000) (h8 : (M : Int) ≤ 2000) :
    Calls Tryd.prog 4 #[.int .i64 f, .slice a L c, .int .u64 tag, .slice o M d, .int .u64 forged] w fun e w' => e = .returned (.bool true) ∧ Below w.heap.size w w' := by
  go_enter Tryd.func4, Tryd.ntmps4
  go_wp2_with (first
    | (go_at_call 12; refine (C1.out _ HS.out).mono ?_; rintro e w1 ⟨rfl, hb1⟩; have K1 := hb1)
    | (go_at_call 13; refine (C2.out _ (hS.out _ _ HS.out K1)).mono ?_; rintro e w2 ⟨rfl, hb2⟩; have K2 := bStep K1 hb2)
    | (go_at_call 8; refine (CW.out _ (glob_step HG.out K2)).mono ?_; rintro e w7 ⟨rfl, hb7⟩))
  go_ret
  exact ⟨rfl, bStep K2 hb7⟩
set_option maxRecDepth 20000 in
theorem fits_3e (f : Int) (a o : Option Addr) (c d L M : Nat) (tag forged : Nat) (w : World) (CW : Hid (∀ W, Glob0 W → true_works W)) (HG : Hid (Glob0 w)) (S : World → Prop) (hS : Hid (∀ W W', S W → Below W.heap.size W W' → S W')) (HS : Hid (S w)) (r1 r2 : Int) (C1 : Hid (∀ W, S W → Calls Tryd.prog 12 #[.int .i64 f, .slice a L c, .int .u64 tag, .slice o M d, .int .u64 forged] W fun e w' => e = .returned (.tuple #[.int .i64 r1, .int .i64 r2]) ∧ Below W.heap.size W w')) (C2 : Hid (∀ W, S W → Calls Tryd.prog 13 #[.int .i64 f, .slice a L c, .int .u64 tag, .slice o M d, .int .u64 forged] W fun e w' => e = .returned (.tuple #[.int .i64 r1, .int .i64 r2]) ∧ Below W.heap.size W w')) (h1 : (L : Int) ≤ 1000) (h2 : (M : Int) ≤ 1000) (h3 : (L : Int) ≤ 40) (h4 : (M : Int) ≤ 40) (h5 : f = 1) (h6 : (L : Int) + M ≤ 8) (h7 : (L : Int) ≤ 2000) (h8 : (M : Int) ≤ 2000) :
    Calls Tryd.prog 4 #[.int .i64 f, .slice a L c, .int .u64 tag, .slice o M d, .int .u64 forged] w fun e w' => e = .returned (.bool true) ∧ Below w.heap.size w w' := by
  subst h5
  go_enter Tryd.func4, Tryd.ntmps4
  go_wp2_with (first
    | (go_at_call 12; refine (C1.out _ HS.out).mono ?_; rintro e w1 ⟨rfl, hb1⟩; have K1 := hb1)
    | (go_at_call 13; refine (C2.out _ (hS.out _ _ HS.out K1)).mono ?_; rintro e w2 ⟨rfl, hb2⟩; have K2 := bStep K1 hb2)
    | (go_at_call 8; refine (CW.out _ (glob_step HG.out K2)).mono ?_; rintro e w7 ⟨rfl, hb7⟩))
  go_ret
  exact ⟨rfl, bStep K2 hb7⟩
theorem PassportFits_walk (f : Int) (a o : Option Addr) (c d : Nat) (m k : List Nat) (tag forged : Nat) (w : World) (ht : tag < 18446744073709551616) (hf : forged < 18446744073709551616) (hm : Byt m) (hk : Byt k) (hA : BytV a m w) (hB : BytV o k w) (hG : Glob0 w) :
    Calls Tryd.prog 4 #[.int .i64 f, .slice a m.length c, .int .u64 tag, .slice o k.length d, .int .u64 forged] w fun e w' => e = .returned (.bool true) ∧ Below w.heap.size w w' := by
  have CW : Hid (∀ W, Glob0 W → true_works W) := fun W hG => works_any W hG
  have C1 : m.length ≤ 2000 → k.length ≤ 2000 → _ := fun h1 h2 => (show Hid _ from fun W (hS : BytV a m W ∧ BytV o k W) => Fits_any f a o c d m k tag forged W ht hf hm hk h1 h2 hS.1 hS.2)
  have C2 : m.length ≤ 2000 → k.length ≤ 2000 → _ := fun h1 h2 => (show Hid _ from fun W (hS : BytV a m W ∧ BytV o k W) => RFits_any f a o c d m k tag forged W ht hf hm hk h1 h2 hS.1 hS.2)
  have hS : Hid (∀ W W', (BytV a m W ∧ BytV o k W) → Below W.heap.size W W' → (BytV a m W' ∧ BytV o k W')) := fun W W' h hb => ⟨h.1.step hb, h.2.step hb⟩
  by_cases h1 : 1000 < m.length
  · by_cases h2 : 2000 < m.length
    · exact fits_1a f a o c d _ _ tag forged w CW hG (by omega) (by omega)
    · by_cases h3 : 2000 < k.length
      · exact fits_1b f a o c d _ _ tag forged w CW hG (by omega) (by omega) (by omega)
      · exact fits_1c f a o c d _ _ tag forged w CW hG _ hS ⟨hA, hB⟩ _ _ (C1 (by omega) (by omega)) (C2 (by omega) (by omega)) (by omega) (by omega) (by omega)
  · by_cases h2 : 1000 < k.length
    · by_cases h3 : 2000 < k.length
      · exact fits_2a f a o c d _ _ tag forged w CW hG (by omega) (by omega) (by omega) (by omega)
      · exact fits_2b f a o c d _ _ tag forged w CW hG _ hS ⟨hA, hB⟩ _ _ (C1 (by omega) (by omega)) (C2 (by omega) (by omega)) (by omega) (by omega) (by omega) (by omega)
    · by_cases h3 : 40 < m.length
      · exact fits_3a f a o c d _ _ tag forged w CW hG (by omega) (by omega) (by omega)
      · by_cases h4 : 40 < k.length
        · exact fits_3b f a o c d _ _ tag forged w CW hG (by omega) (by omega) (by omega) (by omega)
        · by_cases h5 : f = 1
          · by_cases h6 : 8 < m.length + k.length
            · exact fits_3d f a o c d _ _ tag forged w CW hG (by omega) (by omega) (by omega) (by omega) h5 (by omega)
            · exact fits_3e f a o c d _ _ tag forged w CW hG _ hS ⟨hA, hB⟩ _ _ (C1 (by omega) (by omega)) (C2 (by omega) (by omega)) (by omega) (by omega) (by omega) (by omega) h5 (by omega) (by omega) (by omega)
          · exact fits_3c f a o c d _ _ tag forged w CW hG _ hS ⟨hA, hB⟩ _ _ (C1 (by omega) (by omega)) (C2 (by omega) (by omega)) (by omega) (by omega) (by omega) (by omega) (by simpa using h5) (by omega) (by omega)
end Go.Proofs.YtlhponankanlmaaDoor
