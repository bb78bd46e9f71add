/-
  Text of the reference.
-/
import Derived.Test.YtpdhkgfdmpofiaaGreatDoorTn
import Derived.Test.YtpdhkgfdmpofiaaGreatDoorQc
import Derived.Deep.MidRow
set_option linter.unusedSimpArgs false
set_option linter.unusedVariables false
namespace Go.Proofs.YtpdhkgfdmpofiaaGreatDoor
open Sx Go.RowKit
/-- A guard's cells, in a row. -/
theorem grange {W : World} {b : Nat} {n : Nat → Int} (h : W.heap[b]? = some (gObj n)) : W.rangeAt b 0 [.int .i64 (n 0), .int .i64 (n 1), .int .i64 (n 2), .int .i64 (n 3), .int .i64 (n 4), .int .i64 (n 5), .int .i64 (n 6), .int .i64 (n 7), .int .i64 (n 8), .int .i64 (n 9), .int .i64 (n 10), .int .i64 (n 11), .int .i64 (n 12), .int .i64 (n 13), .int .i64 (n 14), .int .i64 (n 15), .int .i64 (n 16), .int .i64 (n 17), .int .i64 (n 18), .int .i64 (n 19), .int .i64 (n 20), .int .i64 (n 21)] := fun j v hv => by
  have hj : j < 22 := (List.getElem?_eq_some_iff.1 hv).1
  have := gcells h hj
  rw [Nat.zero_add, this]
  have hc : j = 0 ∨ j = 1 ∨ j = 2 ∨ j = 3 ∨ j = 4 ∨ j = 5 ∨ j = 6 ∨ j = 7 ∨ j = 8 ∨ j = 9 ∨ j = 10 ∨ j = 11 ∨ j = 12 ∨ j = 13 ∨ j = 14 ∨ j = 15 ∨ j = 16 ∨ j = 17 ∨ j = 18 ∨ j = 19 ∨ j = 20 ∨ j = 21 := by omega
  rcases hc with rfl | rfl | rfl | rfl | rfl | rfl | rfl | rfl | rfl | rfl | rfl | rfl | rfl | rfl | rfl | rfl | rfl | rfl | rfl | rfl | rfl | rfl <;> exact hv
theorem gsize : (Tryz.prog.info? 25).map (·.size) = some 22 := by kernel_rfl
/-- What Text hands back. -/
def txS (n : Nat → Int) : ByteArray × Int := if chkR n = 0 then (⟨(gTxt (gL n)).toArray⟩, 0) else (⟨#[]⟩, 2)
theorem txS_ok {n : Nat → Int} (h : chkR n = 0) : txS n = (⟨(gTxt (gL n)).toArray⟩, 0) := if_pos h
theorem txS_no {n : Nat → Int} (h : chkR n ≠ 0) : txS n = (⟨#[]⟩, 2) := if_neg h
/-- The text of the first numbers. -/
def gT (n : Nat → Int) (k : Nat) : List UInt8 := Lib.join (gW :: ((gL n).take k).map Lib.itoa) [32]
theorem gT_zero (n : Nat → Int) : gT n 0 = gW := by unfold gT; simp [Lib.join_one]
theorem gT_more (n : Nat → Int) {k : Nat} (h : k < 22) : gT n (k + 1) = gT n k ++ 32 :: Lib.itoa (n k) := by
  unfold gT
  rw [gL_take n h, List.map_append, ← List.cons_append]
  exact join_app (by simp) _
theorem gT_all (n : Nat → Int) : gT n 22 = gTxt (gL n) := rfl
theorem gL_get (n : Nat → Int) {k : Nat} (h : k < 22) : (gL n).getD k 0 = n k := by
  have hc : k = 0 ∨ k = 1 ∨ k = 2 ∨ k = 3 ∨ k = 4 ∨ k = 5 ∨ k = 6 ∨ k = 7 ∨ k = 8 ∨ k = 9 ∨ k = 10 ∨ k = 11 ∨ k = 12 ∨ k = 13 ∨ k = 14 ∨ k = 15 ∨ k = 16 ∨ k = 17 ∨ k = 18 ∨ k = 19 ∨ k = 20 ∨ k = 21 := by omega
  rcases hc with rfl | rfl | rfl | rfl | rfl | rfl | rfl | rfl | rfl | rfl | rfl | rfl | rfl | rfl | rfl | rfl | rfl | rfl | rfl | rfl | rfl | rfl <;> rfl
theorem gn_sm {n : Nat → Int} (h : chkR n = 0) {k : Nat} (hk : k < 22) : -1099511627776 ≤ n k ∧ n k ≤ 1099511627776 := by
  have := gL_sm h (n k) (by
    rw [← gL_get n hk, List.getD_eq_getElem?_getD, List.getElem?_eq_getElem (by rw [gL_len]; exact hk)]
    exact List.getElem_mem _)
  exact this
theorem gT_len {n : Nat → Int} (h : chkR n = 0) : ∀ k, k ≤ 22 → (gT n k).length ≤ 5 + 15 * k
  | 0, _ => by rw [gT_zero]; decide
  | k + 1, hk => by
    rw [gT_more n (by omega)]
    have h1 := gT_len h k (by omega)
    have h2 := gn_sm h (show k < 22 by omega)
    have h3 := okP_len h2.1 h2.2
    simp only [List.length_append, List.length_cons]
    omega
set_option maxHeartbeats 2000000 in
set_option maxRecDepth 20000 in
theorem RText_any (n : Nat → Int) (w : World) (hG : Glob0 w) : Calls Tryz.prog 6 #[.agg #[.int .i64 (n 0), .int .i64 (n 1), .int .i64 (n 2), .int .i64 (n 3), .int .i64 (n 4), .int .i64 (n 5), .int .i64 (n 6), .int .i64 (n 7), .int .i64 (n 8), .int .i64 (n 9), .int .i64 (n 10), .int .i64 (n 11), .int .i64 (n 12), .int .i64 (n 13), .int .i64 (n 14), .int .i64 (n 15), .int .i64 (n 16), .int .i64 (n 17), .int .i64 (n 18), .int .i64 (n 19), .int .i64 (n 20), .int .i64 (n 21)]] w fun e w' => e = .returned (.tuple #[.string (txS n).1, .int .i64 (txS n).2]) ∧ Below w.heap.size w w' := by
  have CK := Lib.hid (fun W hG => RCheck_any n W hG)
  have HG := Lib.hid hG
  have B0 := Lib.hid (blk_new w (gObj n))
  by_cases hk : chkR n = 0
  · rw [txS_ok hk]
    rw [hk] at CK
    have CN := Lib.hid (fun W => Numbers_any n W)
    dsimp only
    have HK := Lib.hid hk
    clear hk hG
    go_enter Tryz.func6, Tryz.ntmps6
    go_wp2_with (first
      | (refine wpList_load_mid rfl 25 (.tmp 1) rfl w.heap.size 0 rfl [.int .i64 (n 0), .int .i64 (n 1), .int .i64 (n 2), .int .i64 (n 3), .int .i64 (n 4), .int .i64 (n 5), .int .i64 (n 6), .int .i64 (n 7), .int .i64 (n 8), .int .i64 (n 9), .int .i64 (n 10), .int .i64 (n 11), .int .i64 (n 12), .int .i64 (n 13), .int .i64 (n 14), .int .i64 (n 15), .int .i64 (n 16), .int .i64 (n 17), .int .i64 (n 18), .int .i64 (n 19), .int .i64 (n 20), .int .i64 (n 21)] _ (grange B0.out) Tryz.underlying25 rfl gsize ?_)
      | (go_at_call 18; refine (CK.out _ (gstep HG.out (by repeat' (first | exact Below.refl _ _ | assumption | apply bDrewN | apply bDrew | apply bAlloc | (refine bSet ?_ ?_ _) | (refine bStep ?_ (by assumption)) | omega | (simp <;> omega))))).mono ?_; rintro e w1 ⟨rfl, hb1⟩; replace B0 := Lib.hid (blk_step B0.out hb1))
      | (go_at_call 19; refine (CN.out _).mono ?_; rintro e w2 ⟨v, rfl, hv, hb2⟩))
    obtain ⟨a, c, rfl, hA⟩ := hv
    obtain ⟨b, o, rfl, hbl, hcx⟩ := hA (by unfold gL; simp)
    rw [gL_len]
    have HX := Lib.hid (show ∀ k, k < 22 → w2.cell? ⟨b, o + k, none⟩ = some (.int .i64 (n k)) from fun k hk => by rw [← gL_get n hk]; exact hcx k hk)
    have HB := Lib.hid hbl
    have K2 : Below w.heap.size w w2 := (by repeat' (first | exact Below.refl _ _ | assumption | apply bDrewN | apply bDrew | apply bAlloc | (refine bSet ?_ ?_ _) | (refine bStep ?_ (by assumption)) | omega | (simp <;> omega)))
    have KK := Lib.hid K2
    clear hcx hbl hb1 hb2 K2 CK CN B0
    go_loopw [4, 6] (fun t i wr => ∃ k : Nat, k ≤ 22 ∧ i = .int .i64 k ∧ t = .string ⟨(gT n k).toArray⟩ ∧ Below w2.heap.size w2 wr) (fun _ i _ => 22 - (intOf i).toNat)
    case atStart => exact ⟨0, by omega, rfl, by rw [gT_zero]; rfl, Below.refl _ _⟩
    case round =>
      obtain ⟨k, hk, rfl, rfl, kB⟩ := hrel
      have i1 : (0 : Int) ≤ (k : Int) := by omega
      by_cases hlt : k < 22
      · have hlt2 : (k : Int) < 22 := by omega
        have g0 := (kB.cell (p := ⟨b, o + k, none⟩) HB.out).trans (HX.out k hlt)
        have hm := gn_sm HK.out hlt
        have hl := gT_len HK.out k (by omega)
        have hz := okP_len hm.1 hm.2
        have CD := Lib.hid (fun W => Digits_any (n k) (by omega) (by omega) W)
        have HN := Lib.hid (show (⟨(gT n (k + 1)).toArray⟩ : ByteArray) = ((ByteArray.mk (gT n k).toArray) ++ ⟨#[32]⟩) ++ (ByteArray.mk (Lib.itoa (n k)).toArray) from ba_inj (by rw [gT_more n hlt]; simp))
        have s1 : (ByteArray.mk (gT n k).toArray).size ≤ 400 := by rw [Lib.size_eq]; simp; omega
        have s2 : (ByteArray.mk (Lib.itoa (n k)).toArray).size ≤ 14 := by rw [Lib.size_eq]; exact hz
        generalize (ByteArray.mk (gT n k).toArray) = t0 at *
        generalize (ByteArray.mk (Lib.itoa (n k)).toArray) = t1 at *
        obtain ⟨t2, ht2⟩ : ∃ t2 : ByteArray, t0 ++ ⟨#[32]⟩ = t2 := ⟨_, rfl⟩
        have s3 : t2.size = t0.size + 1 := by rw [← ht2]; simp; rfl
        have m1 : ¬ 9223372036854775807 < t0.size + 1 := by omega
        have m2 : ¬ 9223372036854775807 < t2.size + t1.size := by omega
        have HN2 := Lib.hid (show (⟨(gT n (k + 1)).toArray⟩ : ByteArray) = t2 ++ t1 by rw [HN.out, ht2])
        clear HN hm hl hz s1 s2 s3
        go_wp2_with (go_at_call 20; refine (CD.out _).mono ?_; rintro e w3 ⟨rfl, hb3⟩)
        go_roundw
        case rel => first | exact ⟨k + 1, by omega, by push_cast; rfl, by rw [HN2.out], (by repeat' (first | exact Below.refl _ _ | assumption | apply bDrewN | apply bDrew | apply bAlloc | (refine bSet ?_ ?_ _) | (refine bStep ?_ (by assumption)) | omega | (simp <;> omega)))⟩ | ((repeat apply Exists.intro); exact ⟨⟨k + 1, by omega, by push_cast; rfl, by rw [HN2.out], (by repeat' (first | exact Below.refl _ _ | assumption | apply bDrewN | apply bDrew | apply bAlloc | (refine bSet ?_ ?_ _) | (refine bStep ?_ (by assumption)) | omega | (simp <;> omega)))⟩, rfl⟩)
        case measure => (simp [intOf]; omega)
      · obtain rfl : k = 22 := by omega
        rw [gT_all]
        have kF := bStep KK.out kB
        obtain ⟨t, ht⟩ : ∃ t, (⟨(gTxt (gL n)).toArray⟩ : ByteArray) = t := ⟨_, rfl⟩
        rw [ht]
        have HT := Lib.hid ht
        clear ht hlt hk i1
        go_wp2_with fail
        exact bodyPost_ret (v := .tuple #[.string t, .int .i64 0]) (by simp only [results, Tryz.results6]; go_simp) rfl ⟨by rw [HT.out], kF⟩
  · rw [txS_no hk]
    have h2 : chkR n = 2 := by rcases chkR_02 n with h | h; exact absurd h hk; exact h
    rw [h2] at CK
    clear hk h2 hG
    go_enter Tryz.func6, Tryz.ntmps6
    go_wp2_with (first | (refine wpList_load_mid rfl 25 (.tmp 1) rfl w.heap.size 0 rfl [.int .i64 (n 0), .int .i64 (n 1), .int .i64 (n 2), .int .i64 (n 3), .int .i64 (n 4), .int .i64 (n 5), .int .i64 (n 6), .int .i64 (n 7), .int .i64 (n 8), .int .i64 (n 9), .int .i64 (n 10), .int .i64 (n 11), .int .i64 (n 12), .int .i64 (n 13), .int .i64 (n 14), .int .i64 (n 15), .int .i64 (n 16), .int .i64 (n 17), .int .i64 (n 18), .int .i64 (n 19), .int .i64 (n 20), .int .i64 (n 21)] _ (grange B0.out) Tryz.underlying25 rfl gsize ?_) | (go_at_call 18; refine (CK.out _ (gstep HG.out (by repeat' (first | exact Below.refl _ _ | assumption | apply bDrewN | apply bDrew | apply bAlloc | (refine bSet ?_ ?_ _) | (refine bStep ?_ (by assumption)) | omega | (simp <;> omega))))).mono ?_; rintro e w1 ⟨rfl, hb1⟩))
    exact bodyPost_ret (v := .tuple #[.string ⟨#[]⟩, .int .i64 2]) (by simp only [results, Tryz.results6]; go_simp) rfl ⟨rfl, (by repeat' (first | exact Below.refl _ _ | assumption | apply bDrewN | apply bDrew | apply bAlloc | (refine bSet ?_ ?_ _) | (refine bStep ?_ (by assumption)) | omega | (simp <;> omega)))⟩
end Go.Proofs.YtpdhkgfdmpofiaaGreatDoor
