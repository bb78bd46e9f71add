/-
  The reference's Parse: the walk.
-/
import Derived.Test.YtdelgbdiofkndaaGreatDoorG21Events
import Derived.Test.YtdelgbdiofkndaaGreatDoorG15Events
set_option linter.unusedSimpArgs false
set_option linter.unusedVariables false
namespace Go.Proofs.YtdelgbdiofkndaaGreatDoor
open Sx Go.RowKit Mr
theorem wd_eq {z : ByteArray} {k : Nat} (h : word (k : Int) = z.data.toList) : ((wdB k).toList == z.toList) = true := by
  rw [Lib.toList_data, Lib.toList_data]
  simpa [wdB] using h
theorem wd_ne {z : ByteArray} {k : Nat} (h : ¬ word (k : Int) = z.data.toList) : ((wdB k).toList == z.toList) = false := by
  rw [Lib.toList_data, Lib.toList_data]
  simpa [wdB] using h
theorem cut_len {ts : List ByteArray} {l : List UInt8} (h : ts.map (·.data.toList) = (spl l).take 7) : ts.length ≤ 7 := by
  have := congrArg List.length h
  rw [List.length_map, List.length_take] at this
  omega
theorem kdU_yes {z : List UInt8} {k : Nat} (h1 : 1 ≤ k) (h : word (k : Int) = z) : kdU z k = k := by
  obtain ⟨j, rfl⟩ : ∃ j, k = j + 1 := ⟨k - 1, by omega⟩
  unfold kdU
  rw [if_pos h]
theorem kdU_no {z : List UInt8} {k : Nat} (h1 : 1 ≤ k) (h : ¬ word (k : Int) = z) : kdU z k = kdU z (k - 1) := by
  obtain ⟨j, rfl⟩ : ∃ j, k = j + 1 := ⟨k - 1, by omega⟩
  conv => lhs; unfold kdU
  rw [if_neg h]
  rfl
theorem kdU_9 {z : List UInt8} {k : Nat} (h1 : 1 ≤ k) (h9 : k ≤ 9) (h : z = word (k : Int)) : kdU z 9 = k := by
  subst h
  have hc : k = 1 ∨ k = 2 ∨ k = 3 ∨ k = 4 ∨ k = 5 ∨ k = 6 ∨ k = 7 ∨ k = 8 ∨ k = 9 := by omega
  rcases hc with rfl | rfl | rfl | rfl | rfl | rfl | rfl | rfl | rfl <;> decide
theorem kdU_0 {z : List UInt8} (h : ∀ k : Nat, 1 ≤ k → k ≤ 9 → z ≠ word (k : Int)) : kdU z 9 = 0 := by
  have hs : ∀ m, m ≤ 9 → kdU z m = 0 := by
    intro m
    induction m with
    | zero => intro _; rfl
    | succ m ih =>
      intro hm
      rw [kdU_no (by omega) (fun e => h (m + 1) (by omega) hm e.symm)]
      exact ih (by omega)
  exact hs 9 (Nat.le_refl _)
set_option maxHeartbeats 8000000 in
set_option maxRecDepth 20000 in
theorem RParse_any (s : ByteArray) (w : World) (hs : s.size ≤ 10000) (hG : Glob0 w) : Calls Tryz.prog 11 #[.string s] w fun e w' => e = .returned (paV (parE s.data.toList)) ∧ Below w.heap.size w w' := by
  obtain ⟨j0, hj, hy0, hy1, hy2⟩ := info_parts infoS
  have HG := Lib.hid hG
  have HCUT : Hid (Calls Tryz.prog 28 #[.string s] (w.alloc (.cells evZ 23)) fun e w' => ∃ v ts, e = .returned v ∧ ts.map (·.data.toList) = (spl s.data.toList).take 7 ∧ StO w' (w.heap.size + 1) v ts ∧ Below (w.alloc (.cells evZ 23)).heap.size (w.alloc (.cells evZ 23)) w') := by
    have h := RCut_any s (w.alloc (.cells evZ 23)) (by omega)
    rw [show (w.alloc (.cells evZ 23)).heap.size = w.heap.size + 1 by simp] at h ⊢
    exact h
  have HZ := Lib.hid (fun (ts : List ByteArray) (h : ts.map (·.data.toList) = (spl s.data.toList).take 7) j (hj : j < 5) => zj_of (l := s.data.toList) (ts := ts) (m := 7) h (show j < 7 by omega) hj)
  have hzs : ∀ j, (zj s.data.toList j).size ≤ 1000000 := fun j => Nat.le_trans (zj_size (l := s.data.toList) (n := 10000) (by rw [← Lib.size_eq]; exact hs) j) (by decide)
  have HZs2 := Lib.hid (hzs 2)
  have HZs3 := Lib.hid (hzs 3)
  have HZs4 := Lib.hid (hzs 4)
  have HPAR : Hid (∀ n1 n2 n3, Reads (zj s.data.toList 1).data.toList n1 → Reads (zj s.data.toList 2).data.toList n2 → Reads (zj s.data.toList 3).data.toList n3 → ∀ k t a b nm ot, mkE (zj s.data.toList 0).data.toList (zj s.data.toList 2).data.toList (zj s.data.toList 3).data.toList (zj s.data.toList 4).data.toList n1 n2 n3 = (k, t, a, b, nm, ot) → TC s (paV (parE s.data.toList)) k t a b nm ot) :=
    fun n1 n2 n3 r1 r2 r3 k t a b nm ot he => tc_of r1 r2 r3 he
  clear hG hzs
  generalize paV (parE s.data.toList) = R at *
  go_enter Tryz.func11, Tryz.ntmps11
  go_upto_region 3 with (first
    | (go_at_call 28; refine HCUT.out.mono ?_; rintro e w1 ⟨v, ts, rfl, hts, ho, hb⟩; have HTS := Lib.hid hts; have HM := Lib.hid (rz_own ho hb); have HC := Lib.hid (new_cells (W := w1) (cs := em5.map Value.string) (t := 9) (n := 5)); have hlts := cut_len hts; clear hts ho hb)
    | (at_builtin; obtain ⟨L0, m1, -⟩ := id HM.out; refine wpList_app _ rfl (.tmp 10) (.tmp 11) 47 rfl w.heap.size 9 j0 (.string ⟨#[]⟩) 1 16 Tryz.underlying47 hj hy0 hy1 hy2 rfl (by decide) _ ts.length (ts.map Value.string) rfl (m1.own 0 _ rfl) (some ⟨_, 0, none⟩) 5 5 (em5.map Value.string) rfl rfl HC.out (str_one _) (by unfold maxLen; omega) (by omega) m1.sz ?_; intro v' w5 hown hgrow hat; obtain ⟨g, c, rfl, hP⟩ := rz_behind HM.out hown hgrow hat; have P0 := Lib.hid hP; clear hown hgrow hat hP m1 HM HC))
  have HZ0 := Lib.hid (HZ.out ts HTS.out 0 (by decide))
  have HZ1 := Lib.hid (HZ.out ts HTS.out 1 (by decide))
  have HZ2 := Lib.hid (HZ.out ts HTS.out 2 (by decide))
  have HZ3 := Lib.hid (HZ.out ts HTS.out 3 (by decide))
  have HZ4 := Lib.hid (HZ.out ts HTS.out 4 (by decide))
  have hg := (rz_ne P0.out (by simp [em5])).2
  clear HZ HTS HCUT
  generalize zj s.data.toList 0 = z0 at *
  generalize zj s.data.toList 1 = z1 at *
  generalize zj s.data.toList 2 = z2 at *
  generalize zj s.data.toList 3 = z3 at *
  generalize zj s.data.toList 4 = z4 at *
  generalize w5.heap.size = bx at *
  go_wp2_with fail
  have hts5 : ((ts.length + 5 : Nat) : Int) = (ts.length : Int) + 5 := by push_cast; rfl
  go_loopw [6] (fun kx wr => ∃ k : Nat, 1 ≤ k ∧ k ≤ 10 ∧ kx = .int .i64 k ∧ Hid (PZ w (KR w) g c bx (ts ++ em5) #[(.int .i64 ((kdU z0.data.toList (k - 1) : Nat))), (.int .i64 (0)), (.int .i64 (0)), (.int .i64 (0)), (.string ⟨#[]⟩), (.string ⟨#[]⟩)] wr)) (fun kx _ => 10 - (intOf kx).toNat)
  case atStart => exact ⟨1, by omega, by omega, rfl, P0⟩
  case round =>
    clear P0
    obtain ⟨k, h1, h10, rfl, HP⟩ := hrel
    by_cases hc : k ≤ 9
    · have c1 : (k : Int) ≤ 9 := by omega
      have c0 : (1 : Int) ≤ k := by omega
      have CW := Lib.hid (fun w => RWord_any k w h1 hc)
      by_cases cz : word (k : Int) = z0.data.toList
      · have d1 := wd_eq cz
        have hk := Lib.hid (kdU_yes h1 cz)
        clear cz hc
        obtain ⟨e0, e1, e2, e3, e4, e5, f0, f1, f2, f3, f4, f5, el⟩ := ev_open HP.out.ev; have p0 := HP.out.piece HZ0.out; have p1 := HP.out.piece HZ1.out; have p2 := HP.out.piece HZ2.out; have p3 := HP.out.piece HZ3.out; have p4 := HP.out.piece HZ4.out
        go_upto_region 6 with fail
        refine region_all 6 16 119 [] [(none, []), (none, []), (none, []), (none, []), (none, []), (none, [])] [(18, (.int .i64 (k))), (19, (.string (wdB k))), (20, (.slice (some ⟨g, 0, none⟩) (ts.length + 5) c)), (21, (.pointer (some ⟨g, 0, none⟩))), (22, (.string z0)), (23, (.bool true))] (fun bsE vsE W => PZ w (KR w) g c bx (ts ++ em5) #[(.int .i64 ((kdU z0.data.toList (k - 1) : Nat))), (.int .i64 (0)), (.int .i64 (0)), (.int .i64 (0)), (.string ⟨#[]⟩), (.string ⟨#[]⟩)] W) (by kernel_rfl) (by kernel_rfl) rfl rfl (by kernel_rfl) (by rfl) ?h0 ?each ?done
        case h0 =>
          intro vsE hlv
          obtain rfl := len_nil hlv
          exact HP.out.step (Below.refl _ _).drew
        case each =>
          simp only [AllE]
          refine ⟨?_, ?_, ?_, ?_, ?_, ?_, trivial⟩
          · refine ⟨18, (.int .i64 (k)), rfl, by kernel_rfl, ?_⟩
            intro bsE vsE W hlb hlv hnd h
            obtain rfl := len_nil hlb
            obtain rfl := len_nil hlv
            replace h : PZ w (KR w) g c bx (ts ++ em5) #[(.int .i64 ((kdU z0.data.toList (k - 1) : Nat))), (.int .i64 (0)), (.int .i64 (0)), (.int .i64 (0)), (.string ⟨#[]⟩), (.string ⟨#[]⟩)] W := h
            clear hnd
            have HST := Lib.hid h
            obtain ⟨e0, e1, e2, e3, e4, e5, f0, f1, f2, f3, f4, f5, el⟩ := ev_open h.ev; have p0 := h.piece HZ0.out
            intro K Q hK
            simp only [putE, updAll, Act.put, List.setIfInBounds_toArray, List.set_cons_zero, List.set_cons_succ, List.set_nil] at hK ⊢
            go_wp2_with (fail)
            all_goals (first | exact hK _ (by first | exact h | exact h.step (by repeat' (first | exact Below.refl _ _ | apply bDrewN | apply bDrew))) | exact (by first | exact h | exact h.step (by repeat' (first | exact Below.refl _ _ | apply bDrewN | apply bDrew))))
          · refine ⟨19, (.string (wdB k)), rfl, by kernel_rfl, ?_⟩
            intro bsE vsE W hlb hlv hnd h
            obtain rfl := len_nil hlb
            obtain rfl := len_nil hlv
            replace h : PZ w (KR w) g c bx (ts ++ em5) #[(.int .i64 ((kdU z0.data.toList (k - 1) : Nat))), (.int .i64 (0)), (.int .i64 (0)), (.int .i64 (0)), (.string ⟨#[]⟩), (.string ⟨#[]⟩)] W := h
            clear hnd
            have HST := Lib.hid h
            obtain ⟨e0, e1, e2, e3, e4, e5, f0, f1, f2, f3, f4, f5, el⟩ := ev_open h.ev; have p0 := h.piece HZ0.out
            intro K Q hK
            simp only [putE, updAll, Act.put, List.setIfInBounds_toArray, List.set_cons_zero, List.set_cons_succ, List.set_nil] at hK ⊢
            go_wp2_with (go_at_call 23; refine (CW.out _).mono ?_; rintro e w7 ⟨rfl, hb7⟩)
            all_goals (first | exact hK _ (h.step hb7) | exact (h.step hb7))
          · refine ⟨20, (.slice (some ⟨g, 0, none⟩) (ts.length + 5) c), rfl, by kernel_rfl, ?_⟩
            intro bsE vsE W hlb hlv hnd h
            obtain rfl := len_nil hlb
            obtain rfl := len_nil hlv
            replace h : PZ w (KR w) g c bx (ts ++ em5) #[(.int .i64 ((kdU z0.data.toList (k - 1) : Nat))), (.int .i64 (0)), (.int .i64 (0)), (.int .i64 (0)), (.string ⟨#[]⟩), (.string ⟨#[]⟩)] W := h
            clear hnd
            have HST := Lib.hid h
            obtain ⟨e0, e1, e2, e3, e4, e5, f0, f1, f2, f3, f4, f5, el⟩ := ev_open h.ev; have p0 := h.piece HZ0.out
            intro K Q hK
            simp only [putE, updAll, Act.put, List.setIfInBounds_toArray, List.set_cons_zero, List.set_cons_succ, List.set_nil] at hK ⊢
            go_wp2_with (fail)
            all_goals (first | exact hK _ (by first | exact h | exact h.step (by repeat' (first | exact Below.refl _ _ | apply bDrewN | apply bDrew))) | exact (by first | exact h | exact h.step (by repeat' (first | exact Below.refl _ _ | apply bDrewN | apply bDrew))))
          · refine ⟨21, (.pointer (some ⟨g, 0, none⟩)), rfl, by kernel_rfl, ?_⟩
            intro bsE vsE W hlb hlv hnd h
            obtain rfl := len_nil hlb
            obtain rfl := len_nil hlv
            replace h : PZ w (KR w) g c bx (ts ++ em5) #[(.int .i64 ((kdU z0.data.toList (k - 1) : Nat))), (.int .i64 (0)), (.int .i64 (0)), (.int .i64 (0)), (.string ⟨#[]⟩), (.string ⟨#[]⟩)] W := h
            clear hnd
            have HST := Lib.hid h
            obtain ⟨e0, e1, e2, e3, e4, e5, f0, f1, f2, f3, f4, f5, el⟩ := ev_open h.ev; have p0 := h.piece HZ0.out
            intro K Q hK
            simp only [putE, updAll, Act.put, List.setIfInBounds_toArray, List.set_cons_zero, List.set_cons_succ, List.set_nil] at hK ⊢
            go_wp2_with (fail)
            all_goals (first | exact hK _ (by first | exact h | exact h.step (by repeat' (first | exact Below.refl _ _ | apply bDrewN | apply bDrew))) | exact (by first | exact h | exact h.step (by repeat' (first | exact Below.refl _ _ | apply bDrewN | apply bDrew))))
          · refine ⟨22, (.string z0), rfl, by kernel_rfl, ?_⟩
            intro bsE vsE W hlb hlv hnd h
            obtain rfl := len_nil hlb
            obtain rfl := len_nil hlv
            replace h : PZ w (KR w) g c bx (ts ++ em5) #[(.int .i64 ((kdU z0.data.toList (k - 1) : Nat))), (.int .i64 (0)), (.int .i64 (0)), (.int .i64 (0)), (.string ⟨#[]⟩), (.string ⟨#[]⟩)] W := h
            clear hnd
            have HST := Lib.hid h
            obtain ⟨e0, e1, e2, e3, e4, e5, f0, f1, f2, f3, f4, f5, el⟩ := ev_open h.ev; have p0 := h.piece HZ0.out
            intro K Q hK
            simp only [putE, updAll, Act.put, List.setIfInBounds_toArray, List.set_cons_zero, List.set_cons_succ, List.set_nil] at hK ⊢
            go_wp2_with (fail)
            all_goals (first | exact hK _ (by first | exact h | exact h.step (by repeat' (first | exact Below.refl _ _ | apply bDrewN | apply bDrew))) | exact (by first | exact h | exact h.step (by repeat' (first | exact Below.refl _ _ | apply bDrewN | apply bDrew))))
          · refine ⟨23, (.bool true), rfl, by kernel_rfl, ?_⟩
            intro bsE vsE W hlb hlv hnd h
            obtain rfl := len_nil hlb
            obtain rfl := len_nil hlv
            replace h : PZ w (KR w) g c bx (ts ++ em5) #[(.int .i64 ((kdU z0.data.toList (k - 1) : Nat))), (.int .i64 (0)), (.int .i64 (0)), (.int .i64 (0)), (.string ⟨#[]⟩), (.string ⟨#[]⟩)] W := h
            clear hnd
            have HST := Lib.hid h
            obtain ⟨e0, e1, e2, e3, e4, e5, f0, f1, f2, f3, f4, f5, el⟩ := ev_open h.ev; have p0 := h.piece HZ0.out
            intro K Q hK
            simp only [putE, updAll, Act.put, List.setIfInBounds_toArray, List.set_cons_zero, List.set_cons_succ, List.set_nil] at hK ⊢
            go_wp2_with (fail)
            all_goals (first | exact hK _ (by first | exact h | exact h.step (by repeat' (first | exact Below.refl _ _ | apply bDrewN | apply bDrew))) | exact (by first | exact h | exact h.step (by repeat' (first | exact Below.refl _ _ | apply bDrewN | apply bDrew))))
        case done =>
          intro vsE W hlv h
          obtain rfl := len_nil hlv
          replace h : PZ w (KR w) g c bx (ts ++ em5) #[(.int .i64 ((kdU z0.data.toList (k - 1) : Nat))), (.int .i64 (0)), (.int .i64 (0)), (.int .i64 (0)), (.string ⟨#[]⟩), (.string ⟨#[]⟩)] W := h
          have HST := Lib.hid h
          have hk2 := h
          obtain ⟨e0, e1, e2, e3, e4, e5, f0, f1, f2, f3, f4, f5, el⟩ := ev_open h.ev
          have HP2 : Hid (PZ w (KR w) g c bx (ts ++ em5) #[(.int .i64 ((kdU z0.data.toList (k + 1 - 1) : Nat))), (.int .i64 (0)), (.int .i64 (0)), (.int .i64 (0)), (.string ⟨#[]⟩), (.string ⟨#[]⟩)] (W.setCell ⟨bx, 0, none⟩ (.int .i64 k))) := by unfold Hid; rw [Nat.add_sub_cancel, hk.out]; exact h.set0 _
          have HQ := Lib.hid hk2
          clear hk2 h HST HP hk p0 p1 p2 p3 p4
          simp only [putE, updAll, Act.put, List.setIfInBounds_toArray, List.set_cons_zero, List.set_cons_succ, List.set_nil]
          go_wp2_with fail
          exact ⟨⟨k + 1, by omega, by omega, by push_cast; rfl, HP2⟩, by simp [intOf]; omega⟩
      · have d1 := wd_ne cz
        have hk := Lib.hid (kdU_no h1 cz)
        clear cz hc
        obtain ⟨e0, e1, e2, e3, e4, e5, f0, f1, f2, f3, f4, f5, el⟩ := ev_open HP.out.ev; have p0 := HP.out.piece HZ0.out; have p1 := HP.out.piece HZ1.out; have p2 := HP.out.piece HZ2.out; have p3 := HP.out.piece HZ3.out; have p4 := HP.out.piece HZ4.out
        go_upto_region 6 with fail
        refine region_all 6 16 119 [] [(none, []), (none, []), (none, []), (none, []), (none, []), (none, [])] [(18, (.int .i64 (k))), (19, (.string (wdB k))), (20, (.slice (some ⟨g, 0, none⟩) (ts.length + 5) c)), (21, (.pointer (some ⟨g, 0, none⟩))), (22, (.string z0)), (23, (.bool false))] (fun bsE vsE W => PZ w (KR w) g c bx (ts ++ em5) #[(.int .i64 ((kdU z0.data.toList (k - 1) : Nat))), (.int .i64 (0)), (.int .i64 (0)), (.int .i64 (0)), (.string ⟨#[]⟩), (.string ⟨#[]⟩)] W) (by kernel_rfl) (by kernel_rfl) rfl rfl (by kernel_rfl) (by rfl) ?h0 ?each ?done
        case h0 =>
          intro vsE hlv
          obtain rfl := len_nil hlv
          exact HP.out.step (Below.refl _ _).drew
        case each =>
          simp only [AllE]
          refine ⟨?_, ?_, ?_, ?_, ?_, ?_, trivial⟩
          · refine ⟨18, (.int .i64 (k)), rfl, by kernel_rfl, ?_⟩
            intro bsE vsE W hlb hlv hnd h
            obtain rfl := len_nil hlb
            obtain rfl := len_nil hlv
            replace h : PZ w (KR w) g c bx (ts ++ em5) #[(.int .i64 ((kdU z0.data.toList (k - 1) : Nat))), (.int .i64 (0)), (.int .i64 (0)), (.int .i64 (0)), (.string ⟨#[]⟩), (.string ⟨#[]⟩)] W := h
            clear hnd
            have HST := Lib.hid h
            obtain ⟨e0, e1, e2, e3, e4, e5, f0, f1, f2, f3, f4, f5, el⟩ := ev_open h.ev; have p0 := h.piece HZ0.out
            intro K Q hK
            simp only [putE, updAll, Act.put, List.setIfInBounds_toArray, List.set_cons_zero, List.set_cons_succ, List.set_nil] at hK ⊢
            go_wp2_with (fail)
            all_goals (first | exact hK _ (by first | exact h | exact h.step (by repeat' (first | exact Below.refl _ _ | apply bDrewN | apply bDrew))) | exact (by first | exact h | exact h.step (by repeat' (first | exact Below.refl _ _ | apply bDrewN | apply bDrew))))
          · refine ⟨19, (.string (wdB k)), rfl, by kernel_rfl, ?_⟩
            intro bsE vsE W hlb hlv hnd h
            obtain rfl := len_nil hlb
            obtain rfl := len_nil hlv
            replace h : PZ w (KR w) g c bx (ts ++ em5) #[(.int .i64 ((kdU z0.data.toList (k - 1) : Nat))), (.int .i64 (0)), (.int .i64 (0)), (.int .i64 (0)), (.string ⟨#[]⟩), (.string ⟨#[]⟩)] W := h
            clear hnd
            have HST := Lib.hid h
            obtain ⟨e0, e1, e2, e3, e4, e5, f0, f1, f2, f3, f4, f5, el⟩ := ev_open h.ev; have p0 := h.piece HZ0.out
            intro K Q hK
            simp only [putE, updAll, Act.put, List.setIfInBounds_toArray, List.set_cons_zero, List.set_cons_succ, List.set_nil] at hK ⊢
            go_wp2_with (go_at_call 23; refine (CW.out _).mono ?_; rintro e w7 ⟨rfl, hb7⟩)
            all_goals (first | exact hK _ (h.step hb7) | exact (h.step hb7))
          · refine ⟨20, (.slice (some ⟨g, 0, none⟩) (ts.length + 5) c), rfl, by kernel_rfl, ?_⟩
            intro bsE vsE W hlb hlv hnd h
            obtain rfl := len_nil hlb
            obtain rfl := len_nil hlv
            replace h : PZ w (KR w) g c bx (ts ++ em5) #[(.int .i64 ((kdU z0.data.toList (k - 1) : Nat))), (.int .i64 (0)), (.int .i64 (0)), (.int .i64 (0)), (.string ⟨#[]⟩), (.string ⟨#[]⟩)] W := h
            clear hnd
            have HST := Lib.hid h
            obtain ⟨e0, e1, e2, e3, e4, e5, f0, f1, f2, f3, f4, f5, el⟩ := ev_open h.ev; have p0 := h.piece HZ0.out
            intro K Q hK
            simp only [putE, updAll, Act.put, List.setIfInBounds_toArray, List.set_cons_zero, List.set_cons_succ, List.set_nil] at hK ⊢
            go_wp2_with (fail)
            all_goals (first | exact hK _ (by first | exact h | exact h.step (by repeat' (first | exact Below.refl _ _ | apply bDrewN | apply bDrew))) | exact (by first | exact h | exact h.step (by repeat' (first | exact Below.refl _ _ | apply bDrewN | apply bDrew))))
          · refine ⟨21, (.pointer (some ⟨g, 0, none⟩)), rfl, by kernel_rfl, ?_⟩
            intro bsE vsE W hlb hlv hnd h
            obtain rfl := len_nil hlb
            obtain rfl := len_nil hlv
            replace h : PZ w (KR w) g c bx (ts ++ em5) #[(.int .i64 ((kdU z0.data.toList (k - 1) : Nat))), (.int .i64 (0)), (.int .i64 (0)), (.int .i64 (0)), (.string ⟨#[]⟩), (.string ⟨#[]⟩)] W := h
            clear hnd
            have HST := Lib.hid h
            obtain ⟨e0, e1, e2, e3, e4, e5, f0, f1, f2, f3, f4, f5, el⟩ := ev_open h.ev; have p0 := h.piece HZ0.out
            intro K Q hK
            simp only [putE, updAll, Act.put, List.setIfInBounds_toArray, List.set_cons_zero, List.set_cons_succ, List.set_nil] at hK ⊢
            go_wp2_with (fail)
            all_goals (first | exact hK _ (by first | exact h | exact h.step (by repeat' (first | exact Below.refl _ _ | apply bDrewN | apply bDrew))) | exact (by first | exact h | exact h.step (by repeat' (first | exact Below.refl _ _ | apply bDrewN | apply bDrew))))
          · refine ⟨22, (.string z0), rfl, by kernel_rfl, ?_⟩
            intro bsE vsE W hlb hlv hnd h
            obtain rfl := len_nil hlb
            obtain rfl := len_nil hlv
            replace h : PZ w (KR w) g c bx (ts ++ em5) #[(.int .i64 ((kdU z0.data.toList (k - 1) : Nat))), (.int .i64 (0)), (.int .i64 (0)), (.int .i64 (0)), (.string ⟨#[]⟩), (.string ⟨#[]⟩)] W := h
            clear hnd
            have HST := Lib.hid h
            obtain ⟨e0, e1, e2, e3, e4, e5, f0, f1, f2, f3, f4, f5, el⟩ := ev_open h.ev; have p0 := h.piece HZ0.out
            intro K Q hK
            simp only [putE, updAll, Act.put, List.setIfInBounds_toArray, List.set_cons_zero, List.set_cons_succ, List.set_nil] at hK ⊢
            go_wp2_with (fail)
            all_goals (first | exact hK _ (by first | exact h | exact h.step (by repeat' (first | exact Below.refl _ _ | apply bDrewN | apply bDrew))) | exact (by first | exact h | exact h.step (by repeat' (first | exact Below.refl _ _ | apply bDrewN | apply bDrew))))
          · refine ⟨23, (.bool false), rfl, by kernel_rfl, ?_⟩
            intro bsE vsE W hlb hlv hnd h
            obtain rfl := len_nil hlb
            obtain rfl := len_nil hlv
            replace h : PZ w (KR w) g c bx (ts ++ em5) #[(.int .i64 ((kdU z0.data.toList (k - 1) : Nat))), (.int .i64 (0)), (.int .i64 (0)), (.int .i64 (0)), (.string ⟨#[]⟩), (.string ⟨#[]⟩)] W := h
            clear hnd
            have HST := Lib.hid h
            obtain ⟨e0, e1, e2, e3, e4, e5, f0, f1, f2, f3, f4, f5, el⟩ := ev_open h.ev; have p0 := h.piece HZ0.out
            intro K Q hK
            simp only [putE, updAll, Act.put, List.setIfInBounds_toArray, List.set_cons_zero, List.set_cons_succ, List.set_nil] at hK ⊢
            go_wp2_with (fail)
            all_goals (first | exact hK _ (by first | exact h | exact h.step (by repeat' (first | exact Below.refl _ _ | apply bDrewN | apply bDrew))) | exact (by first | exact h | exact h.step (by repeat' (first | exact Below.refl _ _ | apply bDrewN | apply bDrew))))
        case done =>
          intro vsE W hlv h
          obtain rfl := len_nil hlv
          replace h : PZ w (KR w) g c bx (ts ++ em5) #[(.int .i64 ((kdU z0.data.toList (k - 1) : Nat))), (.int .i64 (0)), (.int .i64 (0)), (.int .i64 (0)), (.string ⟨#[]⟩), (.string ⟨#[]⟩)] W := h
          have HST := Lib.hid h
          have HP2 : Hid (PZ w (KR w) g c bx (ts ++ em5) #[(.int .i64 ((kdU z0.data.toList (k + 1 - 1) : Nat))), (.int .i64 (0)), (.int .i64 (0)), (.int .i64 (0)), (.string ⟨#[]⟩), (.string ⟨#[]⟩)] W) := by unfold Hid; rw [Nat.add_sub_cancel, hk.out]; exact h
          clear h HST HP hk e0 e1 e2 e3 e4 e5 f0 f1 f2 f3 f4 f5 el p0 p1 p2 p3 p4
          obtain ⟨e0, e1, e2, e3, e4, e5, f0, f1, f2, f3, f4, f5, el⟩ := ev_open HP2.out.ev
          simp only [putE, updAll, Act.put, List.setIfInBounds_toArray, List.set_cons_zero, List.set_cons_succ, List.set_nil]
          go_wp2_with fail
          exact ⟨⟨k + 1, by omega, by omega, by push_cast; rfl, HP2⟩, by simp [intOf]; omega⟩
    · obtain rfl : k = 10 := by omega
      clear h1 h10 hc
      obtain ⟨kd, hkd⟩ : ∃ kd, kdU z0.data.toList 9 = kd := ⟨_, rfl⟩
      replace HP : Hid (PZ w (KR w) g c bx (ts ++ em5) #[(.int .i64 ((kd : Nat))), (.int .i64 (0)), (.int .i64 (0)), (.int .i64 (0)), (.string ⟨#[]⟩), (.string ⟨#[]⟩)] wr) := by rw [← hkd]; exact HP
      by_cases c1 : z0.data.toList = word 1
      · obtain rfl : kd = 1 := hkd.symm.trans (kdU_9 (by decide) (by decide) c1)
        have HKK : Hid (z0.data.toList = word 1) := c1
        clear hkd c1
        have P1 : Hid (PZ w (KR w) g c bx (ts ++ em5) #[(.int .i64 (1)), (.int .i64 (0)), (.int .i64 (0)), (.int .i64 (0)), (.string ⟨#[]⟩), (.string ⟨#[]⟩)] wr) := HP
        clear HP
        obtain ⟨e0, e1, e2, e3, e4, e5, f0, f1, f2, f3, f4, f5, el⟩ := ev_open P1.out.ev; have p0 := P1.out.piece HZ0.out; have p1 := P1.out.piece HZ1.out; have p2 := P1.out.piece HZ2.out; have p3 := P1.out.piece HZ3.out; have p4 := P1.out.piece HZ4.out
        go_upto_region 9 with (go_at_call 29; refine (Number_any z1 _).mono ?_; rintro e w7 ⟨⟨n1, rfl, hn1⟩, hb7⟩; have P2 := Lib.hid (P1.out.step hb7); have HR1 := Lib.hid (reads_num hn1); clear P1 hn1 hb7 e0 e1 e2 e3 e4 e5 f0 f1 f2 f3 f4 f5 el p0 p1 p2 p3 p4; obtain ⟨e0, e1, e2, e3, e4, e5, f0, f1, f2, f3, f4, f5, el⟩ := ev_open P2.out.ev)
        have P3 := Lib.hid (P2.out.set1 (.int .i64 (n1)))
        generalize w7.setCell ⟨bx, 1, none⟩ (.int .i64 (n1)) = W3 at *
        clear P2 e0 e1 e2 e3 e4 e5 f0 f1 f2 f3 f4 f5 el
        try clear p0 p1 p2 p3 p4
        obtain ⟨e0, e1, e2, e3, e4, e5, f0, f1, f2, f3, f4, f5, el⟩ := ev_open P3.out.ev; have p0 := P3.out.piece HZ0.out; have p1 := P3.out.piece HZ1.out; have p2 := P3.out.piece HZ2.out; have p3 := P3.out.piece HZ3.out; have p4 := P3.out.piece HZ4.out
        go_upto_region 12 with (go_at_call 29; refine (Number_any z2 _).mono ?_; rintro e w7 ⟨⟨n2, rfl, hn2⟩, hb7⟩; have P4 := Lib.hid (P3.out.step hb7); have HR2 := Lib.hid (reads_num hn2); clear P3 hn2 hb7 e0 e1 e2 e3 e4 e5 f0 f1 f2 f3 f4 f5 el p0 p1 p2 p3 p4; obtain ⟨e0, e1, e2, e3, e4, e5, f0, f1, f2, f3, f4, f5, el⟩ := ev_open P4.out.ev)
        have P5 := Lib.hid (P4.out.set2 (.int .i64 (n2)))
        generalize w7.setCell ⟨bx, 2, none⟩ (.int .i64 (n2)) = W5 at *
        clear P4 e0 e1 e2 e3 e4 e5 f0 f1 f2 f3 f4 f5 el
        try clear p0 p1 p2 p3 p4
        obtain ⟨e0, e1, e2, e3, e4, e5, f0, f1, f2, f3, f4, f5, el⟩ := ev_open P5.out.ev; have p0 := P5.out.piece HZ0.out; have p1 := P5.out.piece HZ1.out; have p2 := P5.out.piece HZ2.out; have p3 := P5.out.piece HZ3.out; have p4 := P5.out.piece HZ4.out
        go_upto_region 13 with (go_at_call 29; refine (Number_any z3 _).mono ?_; rintro e w7 ⟨⟨n3, rfl, hn3⟩, hb7⟩; have P6 := Lib.hid (P5.out.step hb7); have HR3 := Lib.hid (reads_num hn3); clear P5 hn3 hb7 e0 e1 e2 e3 e4 e5 f0 f1 f2 f3 f4 f5 el p0 p1 p2 p3 p4; obtain ⟨e0, e1, e2, e3, e4, e5, f0, f1, f2, f3, f4, f5, el⟩ := ev_open P6.out.ev)
        have P7 := Lib.hid (P6.out.set3 (.int .i64 (n3)))
        generalize w7.setCell ⟨bx, 3, none⟩ (.int .i64 (n3)) = W7 at *
        clear P6 e0 e1 e2 e3 e4 e5 f0 f1 f2 f3 f4 f5 el
        try clear p0 p1 p2 p3 p4
        obtain ⟨e0, e1, e2, e3, e4, e5, f0, f1, f2, f3, f4, f5, el⟩ := ev_open P7.out.ev; have p0 := P7.out.piece HZ0.out; have p1 := P7.out.piece HZ1.out; have p2 := P7.out.piece HZ2.out; have p3 := P7.out.piece HZ3.out; have p4 := P7.out.piece HZ4.out
        go_upto_region 27 with fail
        have P8 := Lib.hid (P7.out.set4 (.string z4))
        generalize W7.setCell ⟨bx, 4, none⟩ (.string z4) = W8 at *
        clear P7 e0 e1 e2 e3 e4 e5 f0 f1 f2 f3 f4 f5 el
        try clear p0 p1 p2 p3 p4
        obtain ⟨e0, e1, e2, e3, e4, e5, f0, f1, f2, f3, f4, f5, el⟩ := ev_open P8.out.ev; have p0 := P8.out.piece HZ0.out; have p1 := P8.out.piece HZ1.out; have p2 := P8.out.piece HZ2.out; have p3 := P8.out.piece HZ3.out; have p4 := P8.out.piece HZ4.out
        clear e0 e1 e2 e3 e4 e5 f0 f1 f2 f3 f4 f5 el p0 p1 p2 p3 p4
        have HT := HPAR.out _ _ _ HR1.out HR2.out HR3.out 1 (n1) (n2) (n3) z4 ⟨#[]⟩ (by simp [mkE, HKK.out, word])
        have CT := Lib.hid (fun W hG => RText_any 1 (n1) (n2) (n3) z4 ⟨#[]⟩ W hG HZs4.out (by decide))
        clear HPAR HKK HR1 HR2 HR3
        rcases HT with ⟨q1, q2⟩ | ⟨x, q1, q3, q2⟩ | ⟨q1, q2⟩
        · rw [q1] at CT
          dsimp only at CT
          have HQ := Lib.hid q2
          clear q1 q2
          have E1 := ev_open P8.out.ev
          obtain ⟨e0, e1, e2, e3, e4, e5, f0, f1, f2, f3, f4, f5, el⟩ := E1
          go_wp2_with (go_at_call 9; refine (CT.out _ (gstep HG.out P8.out.bel)).mono ?_; rintro e w9 ⟨rfl, hb9⟩; have P9 := Lib.hid (P8.out.step hb9); clear P8 hb9 e0 e1 e2 e3 e4 e5 f0 f1 f2 f3 f4 f5 el; obtain ⟨e0, e1, e2, e3, e4, e5, f0, f1, f2, f3, f4, f5, el⟩ := ev_open P9.out.ev; obtain ⟨r0, r1, r2, r3, r4, r5, t0, t1, t2, t3, t4, t5, rl⟩ := ev_open (x0 := .int .i64 0) (x1 := .int .i64 0) (x2 := .int .i64 0) (x3 := .int .i64 0) (x4 := .string ⟨#[]⟩) (x5 := .string ⟨#[]⟩) (rz_res P9.out))
          exact bodyPost_ret (v := .tuple #[.agg #[(.int .i64 (1)), (.int .i64 (n1)), (.int .i64 (n2)), (.int .i64 (n3)), (.string z4), (.string ⟨#[]⟩)], .int .i64 0]) (res_cell Tryz.results11 rfl (ev_load (ev_put (rz_res P9.out))) rfl) rfl ⟨by rw [HQ.out], ev_bel P9.out.bel (Nat.le_refl _)⟩
        · rw [q1] at CT
          dsimp only at CT
          have HQ := Lib.hid q2
          clear q1 q2
          have d1 := ba_nl q3
          have d2 : (x.toList == s.toList) = false := by simpa using d1
          clear q3
          have E1 := ev_open P8.out.ev
          obtain ⟨e0, e1, e2, e3, e4, e5, f0, f1, f2, f3, f4, f5, el⟩ := E1
          go_wp2_with (go_at_call 9; refine (CT.out _ (gstep HG.out P8.out.bel)).mono ?_; rintro e w9 ⟨rfl, hb9⟩; have P9 := Lib.hid (P8.out.step hb9); clear P8 hb9 e0 e1 e2 e3 e4 e5 f0 f1 f2 f3 f4 f5 el; obtain ⟨e0, e1, e2, e3, e4, e5, f0, f1, f2, f3, f4, f5, el⟩ := ev_open P9.out.ev; obtain ⟨r0, r1, r2, r3, r4, r5, t0, t1, t2, t3, t4, t5, rl⟩ := ev_open (x0 := .int .i64 0) (x1 := .int .i64 0) (x2 := .int .i64 0) (x3 := .int .i64 0) (x4 := .string ⟨#[]⟩) (x5 := .string ⟨#[]⟩) (rz_res P9.out))
          exact bodyPost_ret (v := zV) (res_cell Tryz.results11 rfl (ev_load (ev_put (rz_res P9.out))) rfl) rfl ⟨by rw [HQ.out], ev_bel P9.out.bel (Nat.le_refl _)⟩
        · rw [q1] at CT
          dsimp only at CT
          have HQ := Lib.hid q2
          clear q1 q2
          have E1 := ev_open P8.out.ev
          obtain ⟨e0, e1, e2, e3, e4, e5, f0, f1, f2, f3, f4, f5, el⟩ := E1
          go_wp2_with (go_at_call 9; refine (CT.out _ (gstep HG.out P8.out.bel)).mono ?_; rintro e w9 ⟨rfl, hb9⟩; have P9 := Lib.hid (P8.out.step hb9); clear P8 hb9 e0 e1 e2 e3 e4 e5 f0 f1 f2 f3 f4 f5 el; obtain ⟨e0, e1, e2, e3, e4, e5, f0, f1, f2, f3, f4, f5, el⟩ := ev_open P9.out.ev; obtain ⟨r0, r1, r2, r3, r4, r5, t0, t1, t2, t3, t4, t5, rl⟩ := ev_open (x0 := .int .i64 0) (x1 := .int .i64 0) (x2 := .int .i64 0) (x3 := .int .i64 0) (x4 := .string ⟨#[]⟩) (x5 := .string ⟨#[]⟩) (rz_res P9.out))
          exact bodyPost_ret (v := zV) (res_cell Tryz.results11 rfl (ev_load (ev_put (rz_res P9.out))) rfl) rfl ⟨by rw [HQ.out], ev_bel P9.out.bel (Nat.le_refl _)⟩
      by_cases c2 : z0.data.toList = word 2
      · obtain rfl : kd = 2 := hkd.symm.trans (kdU_9 (by decide) (by decide) c2)
        have HKK : Hid (z0.data.toList = word 2) := c2
        clear hkd c1 c2
        have P1 : Hid (PZ w (KR w) g c bx (ts ++ em5) #[(.int .i64 (2)), (.int .i64 (0)), (.int .i64 (0)), (.int .i64 (0)), (.string ⟨#[]⟩), (.string ⟨#[]⟩)] wr) := HP
        clear HP
        obtain ⟨e0, e1, e2, e3, e4, e5, f0, f1, f2, f3, f4, f5, el⟩ := ev_open P1.out.ev; have p0 := P1.out.piece HZ0.out; have p1 := P1.out.piece HZ1.out; have p2 := P1.out.piece HZ2.out; have p3 := P1.out.piece HZ3.out; have p4 := P1.out.piece HZ4.out
        go_upto_region 9 with (go_at_call 29; refine (Number_any z1 _).mono ?_; rintro e w7 ⟨⟨n1, rfl, hn1⟩, hb7⟩; have P2 := Lib.hid (P1.out.step hb7); have HR1 := Lib.hid (reads_num hn1); clear P1 hn1 hb7 e0 e1 e2 e3 e4 e5 f0 f1 f2 f3 f4 f5 el p0 p1 p2 p3 p4; obtain ⟨e0, e1, e2, e3, e4, e5, f0, f1, f2, f3, f4, f5, el⟩ := ev_open P2.out.ev)
        have P3 := Lib.hid (P2.out.set1 (.int .i64 (n1)))
        generalize w7.setCell ⟨bx, 1, none⟩ (.int .i64 (n1)) = W3 at *
        clear P2 e0 e1 e2 e3 e4 e5 f0 f1 f2 f3 f4 f5 el
        try clear p0 p1 p2 p3 p4
        obtain ⟨e0, e1, e2, e3, e4, e5, f0, f1, f2, f3, f4, f5, el⟩ := ev_open P3.out.ev; have p0 := P3.out.piece HZ0.out; have p1 := P3.out.piece HZ1.out; have p2 := P3.out.piece HZ2.out; have p3 := P3.out.piece HZ3.out; have p4 := P3.out.piece HZ4.out
        go_upto_region 16 with (go_at_call 29; refine (Number_any z2 _).mono ?_; rintro e w7 ⟨⟨n2, rfl, hn2⟩, hb7⟩; have P4 := Lib.hid (P3.out.step hb7); have HR2 := Lib.hid (reads_num hn2); clear P3 hn2 hb7 e0 e1 e2 e3 e4 e5 f0 f1 f2 f3 f4 f5 el p0 p1 p2 p3 p4; obtain ⟨e0, e1, e2, e3, e4, e5, f0, f1, f2, f3, f4, f5, el⟩ := ev_open P4.out.ev)
        have P5 := Lib.hid (P4.out.set2 (.int .i64 (n2)))
        generalize w7.setCell ⟨bx, 2, none⟩ (.int .i64 (n2)) = W5 at *
        clear P4 e0 e1 e2 e3 e4 e5 f0 f1 f2 f3 f4 f5 el
        try clear p0 p1 p2 p3 p4
        obtain ⟨e0, e1, e2, e3, e4, e5, f0, f1, f2, f3, f4, f5, el⟩ := ev_open P5.out.ev; have p0 := P5.out.piece HZ0.out; have p1 := P5.out.piece HZ1.out; have p2 := P5.out.piece HZ2.out; have p3 := P5.out.piece HZ3.out; have p4 := P5.out.piece HZ4.out
        go_upto_region 27 with (go_at_call 29; refine (Number_any z3 _).mono ?_; rintro e w7 ⟨⟨n3, rfl, hn3⟩, hb7⟩; have P6 := Lib.hid (P5.out.step hb7); have HR3 := Lib.hid (reads_num hn3); clear P5 hn3 hb7 e0 e1 e2 e3 e4 e5 f0 f1 f2 f3 f4 f5 el p0 p1 p2 p3 p4; obtain ⟨e0, e1, e2, e3, e4, e5, f0, f1, f2, f3, f4, f5, el⟩ := ev_open P6.out.ev)
        have P7 := Lib.hid (P6.out.set3 (.int .i64 (n3)))
        generalize w7.setCell ⟨bx, 3, none⟩ (.int .i64 (n3)) = W7 at *
        clear P6 e0 e1 e2 e3 e4 e5 f0 f1 f2 f3 f4 f5 el
        try clear p0 p1 p2 p3 p4
        obtain ⟨e0, e1, e2, e3, e4, e5, f0, f1, f2, f3, f4, f5, el⟩ := ev_open P7.out.ev; have p0 := P7.out.piece HZ0.out; have p1 := P7.out.piece HZ1.out; have p2 := P7.out.piece HZ2.out; have p3 := P7.out.piece HZ3.out; have p4 := P7.out.piece HZ4.out
        clear e0 e1 e2 e3 e4 e5 f0 f1 f2 f3 f4 f5 el p0 p1 p2 p3 p4
        have HT := HPAR.out _ _ _ HR1.out HR2.out HR3.out 2 (n1) (n2) (n3) ⟨#[]⟩ ⟨#[]⟩ (by simp [mkE, HKK.out, word])
        have CT := Lib.hid (fun W hG => RText_any 2 (n1) (n2) (n3) ⟨#[]⟩ ⟨#[]⟩ W hG (by decide) (by decide))
        clear HPAR HKK HR1 HR2 HR3
        rcases HT with ⟨q1, q2⟩ | ⟨x, q1, q3, q2⟩ | ⟨q1, q2⟩
        · rw [q1] at CT
          dsimp only at CT
          have HQ := Lib.hid q2
          clear q1 q2
          have E1 := ev_open P7.out.ev
          obtain ⟨e0, e1, e2, e3, e4, e5, f0, f1, f2, f3, f4, f5, el⟩ := E1
          go_wp2_with (go_at_call 9; refine (CT.out _ (gstep HG.out P7.out.bel)).mono ?_; rintro e w9 ⟨rfl, hb9⟩; have P9 := Lib.hid (P7.out.step hb9); clear P7 hb9 e0 e1 e2 e3 e4 e5 f0 f1 f2 f3 f4 f5 el; obtain ⟨e0, e1, e2, e3, e4, e5, f0, f1, f2, f3, f4, f5, el⟩ := ev_open P9.out.ev; obtain ⟨r0, r1, r2, r3, r4, r5, t0, t1, t2, t3, t4, t5, rl⟩ := ev_open (x0 := .int .i64 0) (x1 := .int .i64 0) (x2 := .int .i64 0) (x3 := .int .i64 0) (x4 := .string ⟨#[]⟩) (x5 := .string ⟨#[]⟩) (rz_res P9.out))
          exact bodyPost_ret (v := .tuple #[.agg #[(.int .i64 (2)), (.int .i64 (n1)), (.int .i64 (n2)), (.int .i64 (n3)), (.string ⟨#[]⟩), (.string ⟨#[]⟩)], .int .i64 0]) (res_cell Tryz.results11 rfl (ev_load (ev_put (rz_res P9.out))) rfl) rfl ⟨by rw [HQ.out], ev_bel P9.out.bel (Nat.le_refl _)⟩
        · rw [q1] at CT
          dsimp only at CT
          have HQ := Lib.hid q2
          clear q1 q2
          have d1 := ba_nl q3
          have d2 : (x.toList == s.toList) = false := by simpa using d1
          clear q3
          have E1 := ev_open P7.out.ev
          obtain ⟨e0, e1, e2, e3, e4, e5, f0, f1, f2, f3, f4, f5, el⟩ := E1
          go_wp2_with (go_at_call 9; refine (CT.out _ (gstep HG.out P7.out.bel)).mono ?_; rintro e w9 ⟨rfl, hb9⟩; have P9 := Lib.hid (P7.out.step hb9); clear P7 hb9 e0 e1 e2 e3 e4 e5 f0 f1 f2 f3 f4 f5 el; obtain ⟨e0, e1, e2, e3, e4, e5, f0, f1, f2, f3, f4, f5, el⟩ := ev_open P9.out.ev; obtain ⟨r0, r1, r2, r3, r4, r5, t0, t1, t2, t3, t4, t5, rl⟩ := ev_open (x0 := .int .i64 0) (x1 := .int .i64 0) (x2 := .int .i64 0) (x3 := .int .i64 0) (x4 := .string ⟨#[]⟩) (x5 := .string ⟨#[]⟩) (rz_res P9.out))
          exact bodyPost_ret (v := zV) (res_cell Tryz.results11 rfl (ev_load (ev_put (rz_res P9.out))) rfl) rfl ⟨by rw [HQ.out], ev_bel P9.out.bel (Nat.le_refl _)⟩
        · rw [q1] at CT
          dsimp only at CT
          have HQ := Lib.hid q2
          clear q1 q2
          have E1 := ev_open P7.out.ev
          obtain ⟨e0, e1, e2, e3, e4, e5, f0, f1, f2, f3, f4, f5, el⟩ := E1
          go_wp2_with (go_at_call 9; refine (CT.out _ (gstep HG.out P7.out.bel)).mono ?_; rintro e w9 ⟨rfl, hb9⟩; have P9 := Lib.hid (P7.out.step hb9); clear P7 hb9 e0 e1 e2 e3 e4 e5 f0 f1 f2 f3 f4 f5 el; obtain ⟨e0, e1, e2, e3, e4, e5, f0, f1, f2, f3, f4, f5, el⟩ := ev_open P9.out.ev; obtain ⟨r0, r1, r2, r3, r4, r5, t0, t1, t2, t3, t4, t5, rl⟩ := ev_open (x0 := .int .i64 0) (x1 := .int .i64 0) (x2 := .int .i64 0) (x3 := .int .i64 0) (x4 := .string ⟨#[]⟩) (x5 := .string ⟨#[]⟩) (rz_res P9.out))
          exact bodyPost_ret (v := zV) (res_cell Tryz.results11 rfl (ev_load (ev_put (rz_res P9.out))) rfl) rfl ⟨by rw [HQ.out], ev_bel P9.out.bel (Nat.le_refl _)⟩
      by_cases c3 : z0.data.toList = word 3
      · obtain rfl : kd = 3 := hkd.symm.trans (kdU_9 (by decide) (by decide) c3)
        have HKK : Hid (z0.data.toList = word 3) := c3
        clear hkd c1 c2 c3
        have P1 : Hid (PZ w (KR w) g c bx (ts ++ em5) #[(.int .i64 (3)), (.int .i64 (0)), (.int .i64 (0)), (.int .i64 (0)), (.string ⟨#[]⟩), (.string ⟨#[]⟩)] wr) := HP
        clear HP
        obtain ⟨e0, e1, e2, e3, e4, e5, f0, f1, f2, f3, f4, f5, el⟩ := ev_open P1.out.ev; have p0 := P1.out.piece HZ0.out; have p1 := P1.out.piece HZ1.out; have p2 := P1.out.piece HZ2.out; have p3 := P1.out.piece HZ3.out; have p4 := P1.out.piece HZ4.out
        go_upto_region 9 with (go_at_call 29; refine (Number_any z1 _).mono ?_; rintro e w7 ⟨⟨n1, rfl, hn1⟩, hb7⟩; have P2 := Lib.hid (P1.out.step hb7); have HR1 := Lib.hid (reads_num hn1); clear P1 hn1 hb7 e0 e1 e2 e3 e4 e5 f0 f1 f2 f3 f4 f5 el p0 p1 p2 p3 p4; obtain ⟨e0, e1, e2, e3, e4, e5, f0, f1, f2, f3, f4, f5, el⟩ := ev_open P2.out.ev)
        have P3 := Lib.hid (P2.out.set1 (.int .i64 (n1)))
        generalize w7.setCell ⟨bx, 1, none⟩ (.int .i64 (n1)) = W3 at *
        clear P2 e0 e1 e2 e3 e4 e5 f0 f1 f2 f3 f4 f5 el
        try clear p0 p1 p2 p3 p4
        obtain ⟨e0, e1, e2, e3, e4, e5, f0, f1, f2, f3, f4, f5, el⟩ := ev_open P3.out.ev; have p0 := P3.out.piece HZ0.out; have p1 := P3.out.piece HZ1.out; have p2 := P3.out.piece HZ2.out; have p3 := P3.out.piece HZ3.out; have p4 := P3.out.piece HZ4.out
        go_upto_region 27 with (go_at_call 29; refine (Number_any z2 _).mono ?_; rintro e w7 ⟨⟨n2, rfl, hn2⟩, hb7⟩; have P4 := Lib.hid (P3.out.step hb7); have HR2 := Lib.hid (reads_num hn2); clear P3 hn2 hb7 e0 e1 e2 e3 e4 e5 f0 f1 f2 f3 f4 f5 el p0 p1 p2 p3 p4; obtain ⟨e0, e1, e2, e3, e4, e5, f0, f1, f2, f3, f4, f5, el⟩ := ev_open P4.out.ev)
        have P5 := Lib.hid (P4.out.set2 (.int .i64 (n2)))
        generalize w7.setCell ⟨bx, 2, none⟩ (.int .i64 (n2)) = W5 at *
        clear P4 e0 e1 e2 e3 e4 e5 f0 f1 f2 f3 f4 f5 el
        try clear p0 p1 p2 p3 p4
        obtain ⟨e0, e1, e2, e3, e4, e5, f0, f1, f2, f3, f4, f5, el⟩ := ev_open P5.out.ev; have p0 := P5.out.piece HZ0.out; have p1 := P5.out.piece HZ1.out; have p2 := P5.out.piece HZ2.out; have p3 := P5.out.piece HZ3.out; have p4 := P5.out.piece HZ4.out
        clear e0 e1 e2 e3 e4 e5 f0 f1 f2 f3 f4 f5 el p0 p1 p2 p3 p4
        have HR3 := Lib.hid (pvS_reads z3.data.toList)
        have HT := HPAR.out _ _ _ HR1.out HR2.out HR3.out 3 (n1) (n2) (0) ⟨#[]⟩ ⟨#[]⟩ (by simp [mkE, HKK.out, word])
        have CT := Lib.hid (fun W hG => RText_any 3 (n1) (n2) (0) ⟨#[]⟩ ⟨#[]⟩ W hG (by decide) (by decide))
        clear HPAR HKK HR1 HR2 HR3
        rcases HT with ⟨q1, q2⟩ | ⟨x, q1, q3, q2⟩ | ⟨q1, q2⟩
        · rw [q1] at CT
          dsimp only at CT
          have HQ := Lib.hid q2
          clear q1 q2
          have E1 := ev_open P5.out.ev
          obtain ⟨e0, e1, e2, e3, e4, e5, f0, f1, f2, f3, f4, f5, el⟩ := E1
          go_wp2_with (go_at_call 9; refine (CT.out _ (gstep HG.out P5.out.bel)).mono ?_; rintro e w9 ⟨rfl, hb9⟩; have P9 := Lib.hid (P5.out.step hb9); clear P5 hb9 e0 e1 e2 e3 e4 e5 f0 f1 f2 f3 f4 f5 el; obtain ⟨e0, e1, e2, e3, e4, e5, f0, f1, f2, f3, f4, f5, el⟩ := ev_open P9.out.ev; obtain ⟨r0, r1, r2, r3, r4, r5, t0, t1, t2, t3, t4, t5, rl⟩ := ev_open (x0 := .int .i64 0) (x1 := .int .i64 0) (x2 := .int .i64 0) (x3 := .int .i64 0) (x4 := .string ⟨#[]⟩) (x5 := .string ⟨#[]⟩) (rz_res P9.out))
          exact bodyPost_ret (v := .tuple #[.agg #[(.int .i64 (3)), (.int .i64 (n1)), (.int .i64 (n2)), (.int .i64 (0)), (.string ⟨#[]⟩), (.string ⟨#[]⟩)], .int .i64 0]) (res_cell Tryz.results11 rfl (ev_load (ev_put (rz_res P9.out))) rfl) rfl ⟨by rw [HQ.out], ev_bel P9.out.bel (Nat.le_refl _)⟩
        · rw [q1] at CT
          dsimp only at CT
          have HQ := Lib.hid q2
          clear q1 q2
          have d1 := ba_nl q3
          have d2 : (x.toList == s.toList) = false := by simpa using d1
          clear q3
          have E1 := ev_open P5.out.ev
          obtain ⟨e0, e1, e2, e3, e4, e5, f0, f1, f2, f3, f4, f5, el⟩ := E1
          go_wp2_with (go_at_call 9; refine (CT.out _ (gstep HG.out P5.out.bel)).mono ?_; rintro e w9 ⟨rfl, hb9⟩; have P9 := Lib.hid (P5.out.step hb9); clear P5 hb9 e0 e1 e2 e3 e4 e5 f0 f1 f2 f3 f4 f5 el; obtain ⟨e0, e1, e2, e3, e4, e5, f0, f1, f2, f3, f4, f5, el⟩ := ev_open P9.out.ev; obtain ⟨r0, r1, r2, r3, r4, r5, t0, t1, t2, t3, t4, t5, rl⟩ := ev_open (x0 := .int .i64 0) (x1 := .int .i64 0) (x2 := .int .i64 0) (x3 := .int .i64 0) (x4 := .string ⟨#[]⟩) (x5 := .string ⟨#[]⟩) (rz_res P9.out))
          exact bodyPost_ret (v := zV) (res_cell Tryz.results11 rfl (ev_load (ev_put (rz_res P9.out))) rfl) rfl ⟨by rw [HQ.out], ev_bel P9.out.bel (Nat.le_refl _)⟩
        · rw [q1] at CT
          dsimp only at CT
          have HQ := Lib.hid q2
          clear q1 q2
          have E1 := ev_open P5.out.ev
          obtain ⟨e0, e1, e2, e3, e4, e5, f0, f1, f2, f3, f4, f5, el⟩ := E1
          go_wp2_with (go_at_call 9; refine (CT.out _ (gstep HG.out P5.out.bel)).mono ?_; rintro e w9 ⟨rfl, hb9⟩; have P9 := Lib.hid (P5.out.step hb9); clear P5 hb9 e0 e1 e2 e3 e4 e5 f0 f1 f2 f3 f4 f5 el; obtain ⟨e0, e1, e2, e3, e4, e5, f0, f1, f2, f3, f4, f5, el⟩ := ev_open P9.out.ev; obtain ⟨r0, r1, r2, r3, r4, r5, t0, t1, t2, t3, t4, t5, rl⟩ := ev_open (x0 := .int .i64 0) (x1 := .int .i64 0) (x2 := .int .i64 0) (x3 := .int .i64 0) (x4 := .string ⟨#[]⟩) (x5 := .string ⟨#[]⟩) (rz_res P9.out))
          exact bodyPost_ret (v := zV) (res_cell Tryz.results11 rfl (ev_load (ev_put (rz_res P9.out))) rfl) rfl ⟨by rw [HQ.out], ev_bel P9.out.bel (Nat.le_refl _)⟩
      by_cases c4 : z0.data.toList = word 4
      · obtain rfl : kd = 4 := hkd.symm.trans (kdU_9 (by decide) (by decide) c4)
        have HKK : Hid (z0.data.toList = word 4) := c4
        clear hkd c1 c2 c3 c4
        have P1 : Hid (PZ w (KR w) g c bx (ts ++ em5) #[(.int .i64 (4)), (.int .i64 (0)), (.int .i64 (0)), (.int .i64 (0)), (.string ⟨#[]⟩), (.string ⟨#[]⟩)] wr) := HP
        clear HP
        obtain ⟨e0, e1, e2, e3, e4, e5, f0, f1, f2, f3, f4, f5, el⟩ := ev_open P1.out.ev; have p0 := P1.out.piece HZ0.out; have p1 := P1.out.piece HZ1.out; have p2 := P1.out.piece HZ2.out; have p3 := P1.out.piece HZ3.out; have p4 := P1.out.piece HZ4.out
        go_upto_region 9 with (go_at_call 29; refine (Number_any z1 _).mono ?_; rintro e w7 ⟨⟨n1, rfl, hn1⟩, hb7⟩; have P2 := Lib.hid (P1.out.step hb7); have HR1 := Lib.hid (reads_num hn1); clear P1 hn1 hb7 e0 e1 e2 e3 e4 e5 f0 f1 f2 f3 f4 f5 el p0 p1 p2 p3 p4; obtain ⟨e0, e1, e2, e3, e4, e5, f0, f1, f2, f3, f4, f5, el⟩ := ev_open P2.out.ev)
        have P3 := Lib.hid (P2.out.set1 (.int .i64 (n1)))
        generalize w7.setCell ⟨bx, 1, none⟩ (.int .i64 (n1)) = W3 at *
        clear P2 e0 e1 e2 e3 e4 e5 f0 f1 f2 f3 f4 f5 el
        try clear p0 p1 p2 p3 p4
        obtain ⟨e0, e1, e2, e3, e4, e5, f0, f1, f2, f3, f4, f5, el⟩ := ev_open P3.out.ev; have p0 := P3.out.piece HZ0.out; have p1 := P3.out.piece HZ1.out; have p2 := P3.out.piece HZ2.out; have p3 := P3.out.piece HZ3.out; have p4 := P3.out.piece HZ4.out
        go_upto_region 27 with (go_at_call 29; refine (Number_any z2 _).mono ?_; rintro e w7 ⟨⟨n2, rfl, hn2⟩, hb7⟩; have P4 := Lib.hid (P3.out.step hb7); have HR2 := Lib.hid (reads_num hn2); clear P3 hn2 hb7 e0 e1 e2 e3 e4 e5 f0 f1 f2 f3 f4 f5 el p0 p1 p2 p3 p4; obtain ⟨e0, e1, e2, e3, e4, e5, f0, f1, f2, f3, f4, f5, el⟩ := ev_open P4.out.ev)
        have P5 := Lib.hid (P4.out.set2 (.int .i64 (n2)))
        generalize w7.setCell ⟨bx, 2, none⟩ (.int .i64 (n2)) = W5 at *
        clear P4 e0 e1 e2 e3 e4 e5 f0 f1 f2 f3 f4 f5 el
        try clear p0 p1 p2 p3 p4
        obtain ⟨e0, e1, e2, e3, e4, e5, f0, f1, f2, f3, f4, f5, el⟩ := ev_open P5.out.ev; have p0 := P5.out.piece HZ0.out; have p1 := P5.out.piece HZ1.out; have p2 := P5.out.piece HZ2.out; have p3 := P5.out.piece HZ3.out; have p4 := P5.out.piece HZ4.out
        clear e0 e1 e2 e3 e4 e5 f0 f1 f2 f3 f4 f5 el p0 p1 p2 p3 p4
        have HR3 := Lib.hid (pvS_reads z3.data.toList)
        have HT := HPAR.out _ _ _ HR1.out HR2.out HR3.out 4 (n1) (n2) (0) ⟨#[]⟩ ⟨#[]⟩ (by simp [mkE, HKK.out, word])
        have CT := Lib.hid (fun W hG => RText_any 4 (n1) (n2) (0) ⟨#[]⟩ ⟨#[]⟩ W hG (by decide) (by decide))
        clear HPAR HKK HR1 HR2 HR3
        rcases HT with ⟨q1, q2⟩ | ⟨x, q1, q3, q2⟩ | ⟨q1, q2⟩
        · rw [q1] at CT
          dsimp only at CT
          have HQ := Lib.hid q2
          clear q1 q2
          have E1 := ev_open P5.out.ev
          obtain ⟨e0, e1, e2, e3, e4, e5, f0, f1, f2, f3, f4, f5, el⟩ := E1
          go_wp2_with (go_at_call 9; refine (CT.out _ (gstep HG.out P5.out.bel)).mono ?_; rintro e w9 ⟨rfl, hb9⟩; have P9 := Lib.hid (P5.out.step hb9); clear P5 hb9 e0 e1 e2 e3 e4 e5 f0 f1 f2 f3 f4 f5 el; obtain ⟨e0, e1, e2, e3, e4, e5, f0, f1, f2, f3, f4, f5, el⟩ := ev_open P9.out.ev; obtain ⟨r0, r1, r2, r3, r4, r5, t0, t1, t2, t3, t4, t5, rl⟩ := ev_open (x0 := .int .i64 0) (x1 := .int .i64 0) (x2 := .int .i64 0) (x3 := .int .i64 0) (x4 := .string ⟨#[]⟩) (x5 := .string ⟨#[]⟩) (rz_res P9.out))
          exact bodyPost_ret (v := .tuple #[.agg #[(.int .i64 (4)), (.int .i64 (n1)), (.int .i64 (n2)), (.int .i64 (0)), (.string ⟨#[]⟩), (.string ⟨#[]⟩)], .int .i64 0]) (res_cell Tryz.results11 rfl (ev_load (ev_put (rz_res P9.out))) rfl) rfl ⟨by rw [HQ.out], ev_bel P9.out.bel (Nat.le_refl _)⟩
        · rw [q1] at CT
          dsimp only at CT
          have HQ := Lib.hid q2
          clear q1 q2
          have d1 := ba_nl q3
          have d2 : (x.toList == s.toList) = false := by simpa using d1
          clear q3
          have E1 := ev_open P5.out.ev
          obtain ⟨e0, e1, e2, e3, e4, e5, f0, f1, f2, f3, f4, f5, el⟩ := E1
          go_wp2_with (go_at_call 9; refine (CT.out _ (gstep HG.out P5.out.bel)).mono ?_; rintro e w9 ⟨rfl, hb9⟩; have P9 := Lib.hid (P5.out.step hb9); clear P5 hb9 e0 e1 e2 e3 e4 e5 f0 f1 f2 f3 f4 f5 el; obtain ⟨e0, e1, e2, e3, e4, e5, f0, f1, f2, f3, f4, f5, el⟩ := ev_open P9.out.ev; obtain ⟨r0, r1, r2, r3, r4, r5, t0, t1, t2, t3, t4, t5, rl⟩ := ev_open (x0 := .int .i64 0) (x1 := .int .i64 0) (x2 := .int .i64 0) (x3 := .int .i64 0) (x4 := .string ⟨#[]⟩) (x5 := .string ⟨#[]⟩) (rz_res P9.out))
          exact bodyPost_ret (v := zV) (res_cell Tryz.results11 rfl (ev_load (ev_put (rz_res P9.out))) rfl) rfl ⟨by rw [HQ.out], ev_bel P9.out.bel (Nat.le_refl _)⟩
        · rw [q1] at CT
          dsimp only at CT
          have HQ := Lib.hid q2
          clear q1 q2
          have E1 := ev_open P5.out.ev
          obtain ⟨e0, e1, e2, e3, e4, e5, f0, f1, f2, f3, f4, f5, el⟩ := E1
          go_wp2_with (go_at_call 9; refine (CT.out _ (gstep HG.out P5.out.bel)).mono ?_; rintro e w9 ⟨rfl, hb9⟩; have P9 := Lib.hid (P5.out.step hb9); clear P5 hb9 e0 e1 e2 e3 e4 e5 f0 f1 f2 f3 f4 f5 el; obtain ⟨e0, e1, e2, e3, e4, e5, f0, f1, f2, f3, f4, f5, el⟩ := ev_open P9.out.ev; obtain ⟨r0, r1, r2, r3, r4, r5, t0, t1, t2, t3, t4, t5, rl⟩ := ev_open (x0 := .int .i64 0) (x1 := .int .i64 0) (x2 := .int .i64 0) (x3 := .int .i64 0) (x4 := .string ⟨#[]⟩) (x5 := .string ⟨#[]⟩) (rz_res P9.out))
          exact bodyPost_ret (v := zV) (res_cell Tryz.results11 rfl (ev_load (ev_put (rz_res P9.out))) rfl) rfl ⟨by rw [HQ.out], ev_bel P9.out.bel (Nat.le_refl _)⟩
      by_cases c5 : z0.data.toList = word 5
      · obtain rfl : kd = 5 := hkd.symm.trans (kdU_9 (by decide) (by decide) c5)
        have HKK : Hid (z0.data.toList = word 5) := c5
        clear hkd c1 c2 c3 c4 c5
        have P1 : Hid (PZ w (KR w) g c bx (ts ++ em5) #[(.int .i64 (5)), (.int .i64 (0)), (.int .i64 (0)), (.int .i64 (0)), (.string ⟨#[]⟩), (.string ⟨#[]⟩)] wr) := HP
        clear HP
        obtain ⟨e0, e1, e2, e3, e4, e5, f0, f1, f2, f3, f4, f5, el⟩ := ev_open P1.out.ev; have p0 := P1.out.piece HZ0.out; have p1 := P1.out.piece HZ1.out; have p2 := P1.out.piece HZ2.out; have p3 := P1.out.piece HZ3.out; have p4 := P1.out.piece HZ4.out
        go_upto_region 9 with (go_at_call 29; refine (Number_any z1 _).mono ?_; rintro e w7 ⟨⟨n1, rfl, hn1⟩, hb7⟩; have P2 := Lib.hid (P1.out.step hb7); have HR1 := Lib.hid (reads_num hn1); clear P1 hn1 hb7 e0 e1 e2 e3 e4 e5 f0 f1 f2 f3 f4 f5 el p0 p1 p2 p3 p4; obtain ⟨e0, e1, e2, e3, e4, e5, f0, f1, f2, f3, f4, f5, el⟩ := ev_open P2.out.ev)
        have P3 := Lib.hid (P2.out.set1 (.int .i64 (n1)))
        generalize w7.setCell ⟨bx, 1, none⟩ (.int .i64 (n1)) = W3 at *
        clear P2 e0 e1 e2 e3 e4 e5 f0 f1 f2 f3 f4 f5 el
        try clear p0 p1 p2 p3 p4
        obtain ⟨e0, e1, e2, e3, e4, e5, f0, f1, f2, f3, f4, f5, el⟩ := ev_open P3.out.ev; have p0 := P3.out.piece HZ0.out; have p1 := P3.out.piece HZ1.out; have p2 := P3.out.piece HZ2.out; have p3 := P3.out.piece HZ3.out; have p4 := P3.out.piece HZ4.out
        go_upto_region 23 with fail
        have P4 := Lib.hid (P3.out.set4 (.string z2))
        generalize W3.setCell ⟨bx, 4, none⟩ (.string z2) = W4 at *
        clear P3 e0 e1 e2 e3 e4 e5 f0 f1 f2 f3 f4 f5 el
        try clear p0 p1 p2 p3 p4
        obtain ⟨e0, e1, e2, e3, e4, e5, f0, f1, f2, f3, f4, f5, el⟩ := ev_open P4.out.ev; have p0 := P4.out.piece HZ0.out; have p1 := P4.out.piece HZ1.out; have p2 := P4.out.piece HZ2.out; have p3 := P4.out.piece HZ3.out; have p4 := P4.out.piece HZ4.out
        go_upto_region 27 with fail
        have P5 := Lib.hid (P4.out.set5 (.string z3))
        generalize W4.setCell ⟨bx, 5, none⟩ (.string z3) = W5 at *
        clear P4 e0 e1 e2 e3 e4 e5 f0 f1 f2 f3 f4 f5 el
        try clear p0 p1 p2 p3 p4
        obtain ⟨e0, e1, e2, e3, e4, e5, f0, f1, f2, f3, f4, f5, el⟩ := ev_open P5.out.ev; have p0 := P5.out.piece HZ0.out; have p1 := P5.out.piece HZ1.out; have p2 := P5.out.piece HZ2.out; have p3 := P5.out.piece HZ3.out; have p4 := P5.out.piece HZ4.out
        clear e0 e1 e2 e3 e4 e5 f0 f1 f2 f3 f4 f5 el p0 p1 p2 p3 p4
        have HR2 := Lib.hid (pvS_reads z2.data.toList)
        have HR3 := Lib.hid (pvS_reads z3.data.toList)
        have HT := HPAR.out _ _ _ HR1.out HR2.out HR3.out 5 (n1) (0) (0) z2 z3 (by simp [mkE, HKK.out, word])
        have CT := Lib.hid (fun W hG => RText_any 5 (n1) (0) (0) z2 z3 W hG HZs2.out HZs3.out)
        clear HPAR HKK HR1 HR2 HR3
        rcases HT with ⟨q1, q2⟩ | ⟨x, q1, q3, q2⟩ | ⟨q1, q2⟩
        · rw [q1] at CT
          dsimp only at CT
          have HQ := Lib.hid q2
          clear q1 q2
          have E1 := ev_open P5.out.ev
          obtain ⟨e0, e1, e2, e3, e4, e5, f0, f1, f2, f3, f4, f5, el⟩ := E1
          go_wp2_with (go_at_call 9; refine (CT.out _ (gstep HG.out P5.out.bel)).mono ?_; rintro e w9 ⟨rfl, hb9⟩; have P9 := Lib.hid (P5.out.step hb9); clear P5 hb9 e0 e1 e2 e3 e4 e5 f0 f1 f2 f3 f4 f5 el; obtain ⟨e0, e1, e2, e3, e4, e5, f0, f1, f2, f3, f4, f5, el⟩ := ev_open P9.out.ev; obtain ⟨r0, r1, r2, r3, r4, r5, t0, t1, t2, t3, t4, t5, rl⟩ := ev_open (x0 := .int .i64 0) (x1 := .int .i64 0) (x2 := .int .i64 0) (x3 := .int .i64 0) (x4 := .string ⟨#[]⟩) (x5 := .string ⟨#[]⟩) (rz_res P9.out))
          exact bodyPost_ret (v := .tuple #[.agg #[(.int .i64 (5)), (.int .i64 (n1)), (.int .i64 (0)), (.int .i64 (0)), (.string z2), (.string z3)], .int .i64 0]) (res_cell Tryz.results11 rfl (ev_load (ev_put (rz_res P9.out))) rfl) rfl ⟨by rw [HQ.out], ev_bel P9.out.bel (Nat.le_refl _)⟩
        · rw [q1] at CT
          dsimp only at CT
          have HQ := Lib.hid q2
          clear q1 q2
          have d1 := ba_nl q3
          have d2 : (x.toList == s.toList) = false := by simpa using d1
          clear q3
          have E1 := ev_open P5.out.ev
          obtain ⟨e0, e1, e2, e3, e4, e5, f0, f1, f2, f3, f4, f5, el⟩ := E1
          go_wp2_with (go_at_call 9; refine (CT.out _ (gstep HG.out P5.out.bel)).mono ?_; rintro e w9 ⟨rfl, hb9⟩; have P9 := Lib.hid (P5.out.step hb9); clear P5 hb9 e0 e1 e2 e3 e4 e5 f0 f1 f2 f3 f4 f5 el; obtain ⟨e0, e1, e2, e3, e4, e5, f0, f1, f2, f3, f4, f5, el⟩ := ev_open P9.out.ev; obtain ⟨r0, r1, r2, r3, r4, r5, t0, t1, t2, t3, t4, t5, rl⟩ := ev_open (x0 := .int .i64 0) (x1 := .int .i64 0) (x2 := .int .i64 0) (x3 := .int .i64 0) (x4 := .string ⟨#[]⟩) (x5 := .string ⟨#[]⟩) (rz_res P9.out))
          exact bodyPost_ret (v := zV) (res_cell Tryz.results11 rfl (ev_load (ev_put (rz_res P9.out))) rfl) rfl ⟨by rw [HQ.out], ev_bel P9.out.bel (Nat.le_refl _)⟩
        · rw [q1] at CT
          dsimp only at CT
          have HQ := Lib.hid q2
          clear q1 q2
          have E1 := ev_open P5.out.ev
          obtain ⟨e0, e1, e2, e3, e4, e5, f0, f1, f2, f3, f4, f5, el⟩ := E1
          go_wp2_with (go_at_call 9; refine (CT.out _ (gstep HG.out P5.out.bel)).mono ?_; rintro e w9 ⟨rfl, hb9⟩; have P9 := Lib.hid (P5.out.step hb9); clear P5 hb9 e0 e1 e2 e3 e4 e5 f0 f1 f2 f3 f4 f5 el; obtain ⟨e0, e1, e2, e3, e4, e5, f0, f1, f2, f3, f4, f5, el⟩ := ev_open P9.out.ev; obtain ⟨r0, r1, r2, r3, r4, r5, t0, t1, t2, t3, t4, t5, rl⟩ := ev_open (x0 := .int .i64 0) (x1 := .int .i64 0) (x2 := .int .i64 0) (x3 := .int .i64 0) (x4 := .string ⟨#[]⟩) (x5 := .string ⟨#[]⟩) (rz_res P9.out))
          exact bodyPost_ret (v := zV) (res_cell Tryz.results11 rfl (ev_load (ev_put (rz_res P9.out))) rfl) rfl ⟨by rw [HQ.out], ev_bel P9.out.bel (Nat.le_refl _)⟩
      by_cases c6 : z0.data.toList = word 6
      · obtain rfl : kd = 6 := hkd.symm.trans (kdU_9 (by decide) (by decide) c6)
        have HKK : Hid (z0.data.toList = word 6) := c6
        clear hkd c1 c2 c3 c4 c5 c6
        have P1 : Hid (PZ w (KR w) g c bx (ts ++ em5) #[(.int .i64 (6)), (.int .i64 (0)), (.int .i64 (0)), (.int .i64 (0)), (.string ⟨#[]⟩), (.string ⟨#[]⟩)] wr) := HP
        clear HP
        obtain ⟨e0, e1, e2, e3, e4, e5, f0, f1, f2, f3, f4, f5, el⟩ := ev_open P1.out.ev; have p0 := P1.out.piece HZ0.out; have p1 := P1.out.piece HZ1.out; have p2 := P1.out.piece HZ2.out; have p3 := P1.out.piece HZ3.out; have p4 := P1.out.piece HZ4.out
        go_upto_region 9 with (go_at_call 29; refine (Number_any z1 _).mono ?_; rintro e w7 ⟨⟨n1, rfl, hn1⟩, hb7⟩; have P2 := Lib.hid (P1.out.step hb7); have HR1 := Lib.hid (reads_num hn1); clear P1 hn1 hb7 e0 e1 e2 e3 e4 e5 f0 f1 f2 f3 f4 f5 el p0 p1 p2 p3 p4; obtain ⟨e0, e1, e2, e3, e4, e5, f0, f1, f2, f3, f4, f5, el⟩ := ev_open P2.out.ev)
        have P3 := Lib.hid (P2.out.set1 (.int .i64 (n1)))
        generalize w7.setCell ⟨bx, 1, none⟩ (.int .i64 (n1)) = W3 at *
        clear P2 e0 e1 e2 e3 e4 e5 f0 f1 f2 f3 f4 f5 el
        try clear p0 p1 p2 p3 p4
        obtain ⟨e0, e1, e2, e3, e4, e5, f0, f1, f2, f3, f4, f5, el⟩ := ev_open P3.out.ev; have p0 := P3.out.piece HZ0.out; have p1 := P3.out.piece HZ1.out; have p2 := P3.out.piece HZ2.out; have p3 := P3.out.piece HZ3.out; have p4 := P3.out.piece HZ4.out
        go_upto_region 23 with fail
        have P4 := Lib.hid (P3.out.set4 (.string z2))
        generalize W3.setCell ⟨bx, 4, none⟩ (.string z2) = W4 at *
        clear P3 e0 e1 e2 e3 e4 e5 f0 f1 f2 f3 f4 f5 el
        try clear p0 p1 p2 p3 p4
        obtain ⟨e0, e1, e2, e3, e4, e5, f0, f1, f2, f3, f4, f5, el⟩ := ev_open P4.out.ev; have p0 := P4.out.piece HZ0.out; have p1 := P4.out.piece HZ1.out; have p2 := P4.out.piece HZ2.out; have p3 := P4.out.piece HZ3.out; have p4 := P4.out.piece HZ4.out
        go_upto_region 27 with fail
        have P5 := Lib.hid (P4.out.set5 (.string z3))
        generalize W4.setCell ⟨bx, 5, none⟩ (.string z3) = W5 at *
        clear P4 e0 e1 e2 e3 e4 e5 f0 f1 f2 f3 f4 f5 el
        try clear p0 p1 p2 p3 p4
        obtain ⟨e0, e1, e2, e3, e4, e5, f0, f1, f2, f3, f4, f5, el⟩ := ev_open P5.out.ev; have p0 := P5.out.piece HZ0.out; have p1 := P5.out.piece HZ1.out; have p2 := P5.out.piece HZ2.out; have p3 := P5.out.piece HZ3.out; have p4 := P5.out.piece HZ4.out
        clear e0 e1 e2 e3 e4 e5 f0 f1 f2 f3 f4 f5 el p0 p1 p2 p3 p4
        have HR2 := Lib.hid (pvS_reads z2.data.toList)
        have HR3 := Lib.hid (pvS_reads z3.data.toList)
        have HT := HPAR.out _ _ _ HR1.out HR2.out HR3.out 6 (n1) (0) (0) z2 z3 (by simp [mkE, HKK.out, word])
        have CT := Lib.hid (fun W hG => RText_any 6 (n1) (0) (0) z2 z3 W hG HZs2.out HZs3.out)
        clear HPAR HKK HR1 HR2 HR3
        rcases HT with ⟨q1, q2⟩ | ⟨x, q1, q3, q2⟩ | ⟨q1, q2⟩
        · rw [q1] at CT
          dsimp only at CT
          have HQ := Lib.hid q2
          clear q1 q2
          have E1 := ev_open P5.out.ev
          obtain ⟨e0, e1, e2, e3, e4, e5, f0, f1, f2, f3, f4, f5, el⟩ := E1
          go_wp2_with (go_at_call 9; refine (CT.out _ (gstep HG.out P5.out.bel)).mono ?_; rintro e w9 ⟨rfl, hb9⟩; have P9 := Lib.hid (P5.out.step hb9); clear P5 hb9 e0 e1 e2 e3 e4 e5 f0 f1 f2 f3 f4 f5 el; obtain ⟨e0, e1, e2, e3, e4, e5, f0, f1, f2, f3, f4, f5, el⟩ := ev_open P9.out.ev; obtain ⟨r0, r1, r2, r3, r4, r5, t0, t1, t2, t3, t4, t5, rl⟩ := ev_open (x0 := .int .i64 0) (x1 := .int .i64 0) (x2 := .int .i64 0) (x3 := .int .i64 0) (x4 := .string ⟨#[]⟩) (x5 := .string ⟨#[]⟩) (rz_res P9.out))
          exact bodyPost_ret (v := .tuple #[.agg #[(.int .i64 (6)), (.int .i64 (n1)), (.int .i64 (0)), (.int .i64 (0)), (.string z2), (.string z3)], .int .i64 0]) (res_cell Tryz.results11 rfl (ev_load (ev_put (rz_res P9.out))) rfl) rfl ⟨by rw [HQ.out], ev_bel P9.out.bel (Nat.le_refl _)⟩
        · rw [q1] at CT
          dsimp only at CT
          have HQ := Lib.hid q2
          clear q1 q2
          have d1 := ba_nl q3
          have d2 : (x.toList == s.toList) = false := by simpa using d1
          clear q3
          have E1 := ev_open P5.out.ev
          obtain ⟨e0, e1, e2, e3, e4, e5, f0, f1, f2, f3, f4, f5, el⟩ := E1
          go_wp2_with (go_at_call 9; refine (CT.out _ (gstep HG.out P5.out.bel)).mono ?_; rintro e w9 ⟨rfl, hb9⟩; have P9 := Lib.hid (P5.out.step hb9); clear P5 hb9 e0 e1 e2 e3 e4 e5 f0 f1 f2 f3 f4 f5 el; obtain ⟨e0, e1, e2, e3, e4, e5, f0, f1, f2, f3, f4, f5, el⟩ := ev_open P9.out.ev; obtain ⟨r0, r1, r2, r3, r4, r5, t0, t1, t2, t3, t4, t5, rl⟩ := ev_open (x0 := .int .i64 0) (x1 := .int .i64 0) (x2 := .int .i64 0) (x3 := .int .i64 0) (x4 := .string ⟨#[]⟩) (x5 := .string ⟨#[]⟩) (rz_res P9.out))
          exact bodyPost_ret (v := zV) (res_cell Tryz.results11 rfl (ev_load (ev_put (rz_res P9.out))) rfl) rfl ⟨by rw [HQ.out], ev_bel P9.out.bel (Nat.le_refl _)⟩
        · rw [q1] at CT
          dsimp only at CT
          have HQ := Lib.hid q2
          clear q1 q2
          have E1 := ev_open P5.out.ev
          obtain ⟨e0, e1, e2, e3, e4, e5, f0, f1, f2, f3, f4, f5, el⟩ := E1
          go_wp2_with (go_at_call 9; refine (CT.out _ (gstep HG.out P5.out.bel)).mono ?_; rintro e w9 ⟨rfl, hb9⟩; have P9 := Lib.hid (P5.out.step hb9); clear P5 hb9 e0 e1 e2 e3 e4 e5 f0 f1 f2 f3 f4 f5 el; obtain ⟨e0, e1, e2, e3, e4, e5, f0, f1, f2, f3, f4, f5, el⟩ := ev_open P9.out.ev; obtain ⟨r0, r1, r2, r3, r4, r5, t0, t1, t2, t3, t4, t5, rl⟩ := ev_open (x0 := .int .i64 0) (x1 := .int .i64 0) (x2 := .int .i64 0) (x3 := .int .i64 0) (x4 := .string ⟨#[]⟩) (x5 := .string ⟨#[]⟩) (rz_res P9.out))
          exact bodyPost_ret (v := zV) (res_cell Tryz.results11 rfl (ev_load (ev_put (rz_res P9.out))) rfl) rfl ⟨by rw [HQ.out], ev_bel P9.out.bel (Nat.le_refl _)⟩
      by_cases c7 : z0.data.toList = word 7
      · obtain rfl : kd = 7 := hkd.symm.trans (kdU_9 (by decide) (by decide) c7)
        have HKK : Hid (z0.data.toList = word 7) := c7
        clear hkd c1 c2 c3 c4 c5 c6 c7
        have P1 : Hid (PZ w (KR w) g c bx (ts ++ em5) #[(.int .i64 (7)), (.int .i64 (0)), (.int .i64 (0)), (.int .i64 (0)), (.string ⟨#[]⟩), (.string ⟨#[]⟩)] wr) := HP
        clear HP
        obtain ⟨e0, e1, e2, e3, e4, e5, f0, f1, f2, f3, f4, f5, el⟩ := ev_open P1.out.ev; have p0 := P1.out.piece HZ0.out; have p1 := P1.out.piece HZ1.out; have p2 := P1.out.piece HZ2.out; have p3 := P1.out.piece HZ3.out; have p4 := P1.out.piece HZ4.out
        go_upto_region 9 with (go_at_call 29; refine (Number_any z1 _).mono ?_; rintro e w7 ⟨⟨n1, rfl, hn1⟩, hb7⟩; have P2 := Lib.hid (P1.out.step hb7); have HR1 := Lib.hid (reads_num hn1); clear P1 hn1 hb7 e0 e1 e2 e3 e4 e5 f0 f1 f2 f3 f4 f5 el p0 p1 p2 p3 p4; obtain ⟨e0, e1, e2, e3, e4, e5, f0, f1, f2, f3, f4, f5, el⟩ := ev_open P2.out.ev)
        have P3 := Lib.hid (P2.out.set1 (.int .i64 (n1)))
        generalize w7.setCell ⟨bx, 1, none⟩ (.int .i64 (n1)) = W3 at *
        clear P2 e0 e1 e2 e3 e4 e5 f0 f1 f2 f3 f4 f5 el
        try clear p0 p1 p2 p3 p4
        obtain ⟨e0, e1, e2, e3, e4, e5, f0, f1, f2, f3, f4, f5, el⟩ := ev_open P3.out.ev; have p0 := P3.out.piece HZ0.out; have p1 := P3.out.piece HZ1.out; have p2 := P3.out.piece HZ2.out; have p3 := P3.out.piece HZ3.out; have p4 := P3.out.piece HZ4.out
        go_upto_region 27 with fail
        have P4 := Lib.hid (P3.out.set4 (.string z2))
        generalize W3.setCell ⟨bx, 4, none⟩ (.string z2) = W4 at *
        clear P3 e0 e1 e2 e3 e4 e5 f0 f1 f2 f3 f4 f5 el
        try clear p0 p1 p2 p3 p4
        obtain ⟨e0, e1, e2, e3, e4, e5, f0, f1, f2, f3, f4, f5, el⟩ := ev_open P4.out.ev; have p0 := P4.out.piece HZ0.out; have p1 := P4.out.piece HZ1.out; have p2 := P4.out.piece HZ2.out; have p3 := P4.out.piece HZ3.out; have p4 := P4.out.piece HZ4.out
        clear e0 e1 e2 e3 e4 e5 f0 f1 f2 f3 f4 f5 el p0 p1 p2 p3 p4
        have HR2 := Lib.hid (pvS_reads z2.data.toList)
        have HR3 := Lib.hid (pvS_reads z3.data.toList)
        have HT := HPAR.out _ _ _ HR1.out HR2.out HR3.out 7 (n1) (0) (0) z2 ⟨#[]⟩ (by simp [mkE, HKK.out, word])
        have CT := Lib.hid (fun W hG => RText_any 7 (n1) (0) (0) z2 ⟨#[]⟩ W hG HZs2.out (by decide))
        clear HPAR HKK HR1 HR2 HR3
        rcases HT with ⟨q1, q2⟩ | ⟨x, q1, q3, q2⟩ | ⟨q1, q2⟩
        · rw [q1] at CT
          dsimp only at CT
          have HQ := Lib.hid q2
          clear q1 q2
          have E1 := ev_open P4.out.ev
          obtain ⟨e0, e1, e2, e3, e4, e5, f0, f1, f2, f3, f4, f5, el⟩ := E1
          go_wp2_with (go_at_call 9; refine (CT.out _ (gstep HG.out P4.out.bel)).mono ?_; rintro e w9 ⟨rfl, hb9⟩; have P9 := Lib.hid (P4.out.step hb9); clear P4 hb9 e0 e1 e2 e3 e4 e5 f0 f1 f2 f3 f4 f5 el; obtain ⟨e0, e1, e2, e3, e4, e5, f0, f1, f2, f3, f4, f5, el⟩ := ev_open P9.out.ev; obtain ⟨r0, r1, r2, r3, r4, r5, t0, t1, t2, t3, t4, t5, rl⟩ := ev_open (x0 := .int .i64 0) (x1 := .int .i64 0) (x2 := .int .i64 0) (x3 := .int .i64 0) (x4 := .string ⟨#[]⟩) (x5 := .string ⟨#[]⟩) (rz_res P9.out))
          exact bodyPost_ret (v := .tuple #[.agg #[(.int .i64 (7)), (.int .i64 (n1)), (.int .i64 (0)), (.int .i64 (0)), (.string z2), (.string ⟨#[]⟩)], .int .i64 0]) (res_cell Tryz.results11 rfl (ev_load (ev_put (rz_res P9.out))) rfl) rfl ⟨by rw [HQ.out], ev_bel P9.out.bel (Nat.le_refl _)⟩
        · rw [q1] at CT
          dsimp only at CT
          have HQ := Lib.hid q2
          clear q1 q2
          have d1 := ba_nl q3
          have d2 : (x.toList == s.toList) = false := by simpa using d1
          clear q3
          have E1 := ev_open P4.out.ev
          obtain ⟨e0, e1, e2, e3, e4, e5, f0, f1, f2, f3, f4, f5, el⟩ := E1
          go_wp2_with (go_at_call 9; refine (CT.out _ (gstep HG.out P4.out.bel)).mono ?_; rintro e w9 ⟨rfl, hb9⟩; have P9 := Lib.hid (P4.out.step hb9); clear P4 hb9 e0 e1 e2 e3 e4 e5 f0 f1 f2 f3 f4 f5 el; obtain ⟨e0, e1, e2, e3, e4, e5, f0, f1, f2, f3, f4, f5, el⟩ := ev_open P9.out.ev; obtain ⟨r0, r1, r2, r3, r4, r5, t0, t1, t2, t3, t4, t5, rl⟩ := ev_open (x0 := .int .i64 0) (x1 := .int .i64 0) (x2 := .int .i64 0) (x3 := .int .i64 0) (x4 := .string ⟨#[]⟩) (x5 := .string ⟨#[]⟩) (rz_res P9.out))
          exact bodyPost_ret (v := zV) (res_cell Tryz.results11 rfl (ev_load (ev_put (rz_res P9.out))) rfl) rfl ⟨by rw [HQ.out], ev_bel P9.out.bel (Nat.le_refl _)⟩
        · rw [q1] at CT
          dsimp only at CT
          have HQ := Lib.hid q2
          clear q1 q2
          have E1 := ev_open P4.out.ev
          obtain ⟨e0, e1, e2, e3, e4, e5, f0, f1, f2, f3, f4, f5, el⟩ := E1
          go_wp2_with (go_at_call 9; refine (CT.out _ (gstep HG.out P4.out.bel)).mono ?_; rintro e w9 ⟨rfl, hb9⟩; have P9 := Lib.hid (P4.out.step hb9); clear P4 hb9 e0 e1 e2 e3 e4 e5 f0 f1 f2 f3 f4 f5 el; obtain ⟨e0, e1, e2, e3, e4, e5, f0, f1, f2, f3, f4, f5, el⟩ := ev_open P9.out.ev; obtain ⟨r0, r1, r2, r3, r4, r5, t0, t1, t2, t3, t4, t5, rl⟩ := ev_open (x0 := .int .i64 0) (x1 := .int .i64 0) (x2 := .int .i64 0) (x3 := .int .i64 0) (x4 := .string ⟨#[]⟩) (x5 := .string ⟨#[]⟩) (rz_res P9.out))
          exact bodyPost_ret (v := zV) (res_cell Tryz.results11 rfl (ev_load (ev_put (rz_res P9.out))) rfl) rfl ⟨by rw [HQ.out], ev_bel P9.out.bel (Nat.le_refl _)⟩
      by_cases c8 : z0.data.toList = word 8
      · obtain rfl : kd = 8 := hkd.symm.trans (kdU_9 (by decide) (by decide) c8)
        have HKK : Hid (z0.data.toList = word 8) := c8
        clear hkd c1 c2 c3 c4 c5 c6 c7 c8
        have P1 : Hid (PZ w (KR w) g c bx (ts ++ em5) #[(.int .i64 (8)), (.int .i64 (0)), (.int .i64 (0)), (.int .i64 (0)), (.string ⟨#[]⟩), (.string ⟨#[]⟩)] wr) := HP
        clear HP
        obtain ⟨e0, e1, e2, e3, e4, e5, f0, f1, f2, f3, f4, f5, el⟩ := ev_open P1.out.ev; have p0 := P1.out.piece HZ0.out; have p1 := P1.out.piece HZ1.out; have p2 := P1.out.piece HZ2.out; have p3 := P1.out.piece HZ3.out; have p4 := P1.out.piece HZ4.out
        go_upto_region 9 with (go_at_call 29; refine (Number_any z1 _).mono ?_; rintro e w7 ⟨⟨n1, rfl, hn1⟩, hb7⟩; have P2 := Lib.hid (P1.out.step hb7); have HR1 := Lib.hid (reads_num hn1); clear P1 hn1 hb7 e0 e1 e2 e3 e4 e5 f0 f1 f2 f3 f4 f5 el p0 p1 p2 p3 p4; obtain ⟨e0, e1, e2, e3, e4, e5, f0, f1, f2, f3, f4, f5, el⟩ := ev_open P2.out.ev)
        have P3 := Lib.hid (P2.out.set1 (.int .i64 (n1)))
        generalize w7.setCell ⟨bx, 1, none⟩ (.int .i64 (n1)) = W3 at *
        clear P2 e0 e1 e2 e3 e4 e5 f0 f1 f2 f3 f4 f5 el
        try clear p0 p1 p2 p3 p4
        obtain ⟨e0, e1, e2, e3, e4, e5, f0, f1, f2, f3, f4, f5, el⟩ := ev_open P3.out.ev; have p0 := P3.out.piece HZ0.out; have p1 := P3.out.piece HZ1.out; have p2 := P3.out.piece HZ2.out; have p3 := P3.out.piece HZ3.out; have p4 := P3.out.piece HZ4.out
        go_upto_region 27 with fail
        have P4 := Lib.hid (P3.out.set4 (.string z2))
        generalize W3.setCell ⟨bx, 4, none⟩ (.string z2) = W4 at *
        clear P3 e0 e1 e2 e3 e4 e5 f0 f1 f2 f3 f4 f5 el
        try clear p0 p1 p2 p3 p4
        obtain ⟨e0, e1, e2, e3, e4, e5, f0, f1, f2, f3, f4, f5, el⟩ := ev_open P4.out.ev; have p0 := P4.out.piece HZ0.out; have p1 := P4.out.piece HZ1.out; have p2 := P4.out.piece HZ2.out; have p3 := P4.out.piece HZ3.out; have p4 := P4.out.piece HZ4.out
        clear e0 e1 e2 e3 e4 e5 f0 f1 f2 f3 f4 f5 el p0 p1 p2 p3 p4
        have HR2 := Lib.hid (pvS_reads z2.data.toList)
        have HR3 := Lib.hid (pvS_reads z3.data.toList)
        have HT := HPAR.out _ _ _ HR1.out HR2.out HR3.out 8 (n1) (0) (0) z2 ⟨#[]⟩ (by simp [mkE, HKK.out, word])
        have CT := Lib.hid (fun W hG => RText_any 8 (n1) (0) (0) z2 ⟨#[]⟩ W hG HZs2.out (by decide))
        clear HPAR HKK HR1 HR2 HR3
        rcases HT with ⟨q1, q2⟩ | ⟨x, q1, q3, q2⟩ | ⟨q1, q2⟩
        · rw [q1] at CT
          dsimp only at CT
          have HQ := Lib.hid q2
          clear q1 q2
          have E1 := ev_open P4.out.ev
          obtain ⟨e0, e1, e2, e3, e4, e5, f0, f1, f2, f3, f4, f5, el⟩ := E1
          go_wp2_with (go_at_call 9; refine (CT.out _ (gstep HG.out P4.out.bel)).mono ?_; rintro e w9 ⟨rfl, hb9⟩; have P9 := Lib.hid (P4.out.step hb9); clear P4 hb9 e0 e1 e2 e3 e4 e5 f0 f1 f2 f3 f4 f5 el; obtain ⟨e0, e1, e2, e3, e4, e5, f0, f1, f2, f3, f4, f5, el⟩ := ev_open P9.out.ev; obtain ⟨r0, r1, r2, r3, r4, r5, t0, t1, t2, t3, t4, t5, rl⟩ := ev_open (x0 := .int .i64 0) (x1 := .int .i64 0) (x2 := .int .i64 0) (x3 := .int .i64 0) (x4 := .string ⟨#[]⟩) (x5 := .string ⟨#[]⟩) (rz_res P9.out))
          exact bodyPost_ret (v := .tuple #[.agg #[(.int .i64 (8)), (.int .i64 (n1)), (.int .i64 (0)), (.int .i64 (0)), (.string z2), (.string ⟨#[]⟩)], .int .i64 0]) (res_cell Tryz.results11 rfl (ev_load (ev_put (rz_res P9.out))) rfl) rfl ⟨by rw [HQ.out], ev_bel P9.out.bel (Nat.le_refl _)⟩
        · rw [q1] at CT
          dsimp only at CT
          have HQ := Lib.hid q2
          clear q1 q2
          have d1 := ba_nl q3
          have d2 : (x.toList == s.toList) = false := by simpa using d1
          clear q3
          have E1 := ev_open P4.out.ev
          obtain ⟨e0, e1, e2, e3, e4, e5, f0, f1, f2, f3, f4, f5, el⟩ := E1
          go_wp2_with (go_at_call 9; refine (CT.out _ (gstep HG.out P4.out.bel)).mono ?_; rintro e w9 ⟨rfl, hb9⟩; have P9 := Lib.hid (P4.out.step hb9); clear P4 hb9 e0 e1 e2 e3 e4 e5 f0 f1 f2 f3 f4 f5 el; obtain ⟨e0, e1, e2, e3, e4, e5, f0, f1, f2, f3, f4, f5, el⟩ := ev_open P9.out.ev; obtain ⟨r0, r1, r2, r3, r4, r5, t0, t1, t2, t3, t4, t5, rl⟩ := ev_open (x0 := .int .i64 0) (x1 := .int .i64 0) (x2 := .int .i64 0) (x3 := .int .i64 0) (x4 := .string ⟨#[]⟩) (x5 := .string ⟨#[]⟩) (rz_res P9.out))
          exact bodyPost_ret (v := zV) (res_cell Tryz.results11 rfl (ev_load (ev_put (rz_res P9.out))) rfl) rfl ⟨by rw [HQ.out], ev_bel P9.out.bel (Nat.le_refl _)⟩
        · rw [q1] at CT
          dsimp only at CT
          have HQ := Lib.hid q2
          clear q1 q2
          have E1 := ev_open P4.out.ev
          obtain ⟨e0, e1, e2, e3, e4, e5, f0, f1, f2, f3, f4, f5, el⟩ := E1
          go_wp2_with (go_at_call 9; refine (CT.out _ (gstep HG.out P4.out.bel)).mono ?_; rintro e w9 ⟨rfl, hb9⟩; have P9 := Lib.hid (P4.out.step hb9); clear P4 hb9 e0 e1 e2 e3 e4 e5 f0 f1 f2 f3 f4 f5 el; obtain ⟨e0, e1, e2, e3, e4, e5, f0, f1, f2, f3, f4, f5, el⟩ := ev_open P9.out.ev; obtain ⟨r0, r1, r2, r3, r4, r5, t0, t1, t2, t3, t4, t5, rl⟩ := ev_open (x0 := .int .i64 0) (x1 := .int .i64 0) (x2 := .int .i64 0) (x3 := .int .i64 0) (x4 := .string ⟨#[]⟩) (x5 := .string ⟨#[]⟩) (rz_res P9.out))
          exact bodyPost_ret (v := zV) (res_cell Tryz.results11 rfl (ev_load (ev_put (rz_res P9.out))) rfl) rfl ⟨by rw [HQ.out], ev_bel P9.out.bel (Nat.le_refl _)⟩
      by_cases c9 : z0.data.toList = word 9
      · obtain rfl : kd = 9 := hkd.symm.trans (kdU_9 (by decide) (by decide) c9)
        have HKK : Hid (z0.data.toList = word 9) := c9
        clear hkd c1 c2 c3 c4 c5 c6 c7 c8 c9
        have P1 : Hid (PZ w (KR w) g c bx (ts ++ em5) #[(.int .i64 (9)), (.int .i64 (0)), (.int .i64 (0)), (.int .i64 (0)), (.string ⟨#[]⟩), (.string ⟨#[]⟩)] wr) := HP
        clear HP
        obtain ⟨e0, e1, e2, e3, e4, e5, f0, f1, f2, f3, f4, f5, el⟩ := ev_open P1.out.ev; have p0 := P1.out.piece HZ0.out; have p1 := P1.out.piece HZ1.out; have p2 := P1.out.piece HZ2.out; have p3 := P1.out.piece HZ3.out; have p4 := P1.out.piece HZ4.out
        go_upto_region 9 with (go_at_call 29; refine (Number_any z1 _).mono ?_; rintro e w7 ⟨⟨n1, rfl, hn1⟩, hb7⟩; have P2 := Lib.hid (P1.out.step hb7); have HR1 := Lib.hid (reads_num hn1); clear P1 hn1 hb7 e0 e1 e2 e3 e4 e5 f0 f1 f2 f3 f4 f5 el p0 p1 p2 p3 p4; obtain ⟨e0, e1, e2, e3, e4, e5, f0, f1, f2, f3, f4, f5, el⟩ := ev_open P2.out.ev)
        have P3 := Lib.hid (P2.out.set1 (.int .i64 (n1)))
        generalize w7.setCell ⟨bx, 1, none⟩ (.int .i64 (n1)) = W3 at *
        clear P2 e0 e1 e2 e3 e4 e5 f0 f1 f2 f3 f4 f5 el
        try clear p0 p1 p2 p3 p4
        obtain ⟨e0, e1, e2, e3, e4, e5, f0, f1, f2, f3, f4, f5, el⟩ := ev_open P3.out.ev; have p0 := P3.out.piece HZ0.out; have p1 := P3.out.piece HZ1.out; have p2 := P3.out.piece HZ2.out; have p3 := P3.out.piece HZ3.out; have p4 := P3.out.piece HZ4.out
        go_upto_region 27 with fail
        clear e0 e1 e2 e3 e4 e5 f0 f1 f2 f3 f4 f5 el p0 p1 p2 p3 p4
        have HR2 := Lib.hid (pvS_reads z2.data.toList)
        have HR3 := Lib.hid (pvS_reads z3.data.toList)
        have HT := HPAR.out _ _ _ HR1.out HR2.out HR3.out 9 (n1) (0) (0) ⟨#[]⟩ ⟨#[]⟩ (by simp [mkE, HKK.out, word])
        have CT := Lib.hid (fun W hG => RText_any 9 (n1) (0) (0) ⟨#[]⟩ ⟨#[]⟩ W hG (by decide) (by decide))
        clear HPAR HKK HR1 HR2 HR3
        rcases HT with ⟨q1, q2⟩ | ⟨x, q1, q3, q2⟩ | ⟨q1, q2⟩
        · rw [q1] at CT
          dsimp only at CT
          have HQ := Lib.hid q2
          clear q1 q2
          have E1 := ev_open P3.out.ev
          obtain ⟨e0, e1, e2, e3, e4, e5, f0, f1, f2, f3, f4, f5, el⟩ := E1
          go_wp2_with (go_at_call 9; refine (CT.out _ (gstep HG.out P3.out.bel)).mono ?_; rintro e w9 ⟨rfl, hb9⟩; have P9 := Lib.hid (P3.out.step hb9); clear P3 hb9 e0 e1 e2 e3 e4 e5 f0 f1 f2 f3 f4 f5 el; obtain ⟨e0, e1, e2, e3, e4, e5, f0, f1, f2, f3, f4, f5, el⟩ := ev_open P9.out.ev; obtain ⟨r0, r1, r2, r3, r4, r5, t0, t1, t2, t3, t4, t5, rl⟩ := ev_open (x0 := .int .i64 0) (x1 := .int .i64 0) (x2 := .int .i64 0) (x3 := .int .i64 0) (x4 := .string ⟨#[]⟩) (x5 := .string ⟨#[]⟩) (rz_res P9.out))
          exact bodyPost_ret (v := .tuple #[.agg #[(.int .i64 (9)), (.int .i64 (n1)), (.int .i64 (0)), (.int .i64 (0)), (.string ⟨#[]⟩), (.string ⟨#[]⟩)], .int .i64 0]) (res_cell Tryz.results11 rfl (ev_load (ev_put (rz_res P9.out))) rfl) rfl ⟨by rw [HQ.out], ev_bel P9.out.bel (Nat.le_refl _)⟩
        · rw [q1] at CT
          dsimp only at CT
          have HQ := Lib.hid q2
          clear q1 q2
          have d1 := ba_nl q3
          have d2 : (x.toList == s.toList) = false := by simpa using d1
          clear q3
          have E1 := ev_open P3.out.ev
          obtain ⟨e0, e1, e2, e3, e4, e5, f0, f1, f2, f3, f4, f5, el⟩ := E1
          go_wp2_with (go_at_call 9; refine (CT.out _ (gstep HG.out P3.out.bel)).mono ?_; rintro e w9 ⟨rfl, hb9⟩; have P9 := Lib.hid (P3.out.step hb9); clear P3 hb9 e0 e1 e2 e3 e4 e5 f0 f1 f2 f3 f4 f5 el; obtain ⟨e0, e1, e2, e3, e4, e5, f0, f1, f2, f3, f4, f5, el⟩ := ev_open P9.out.ev; obtain ⟨r0, r1, r2, r3, r4, r5, t0, t1, t2, t3, t4, t5, rl⟩ := ev_open (x0 := .int .i64 0) (x1 := .int .i64 0) (x2 := .int .i64 0) (x3 := .int .i64 0) (x4 := .string ⟨#[]⟩) (x5 := .string ⟨#[]⟩) (rz_res P9.out))
          exact bodyPost_ret (v := zV) (res_cell Tryz.results11 rfl (ev_load (ev_put (rz_res P9.out))) rfl) rfl ⟨by rw [HQ.out], ev_bel P9.out.bel (Nat.le_refl _)⟩
        · rw [q1] at CT
          dsimp only at CT
          have HQ := Lib.hid q2
          clear q1 q2
          have E1 := ev_open P3.out.ev
          obtain ⟨e0, e1, e2, e3, e4, e5, f0, f1, f2, f3, f4, f5, el⟩ := E1
          go_wp2_with (go_at_call 9; refine (CT.out _ (gstep HG.out P3.out.bel)).mono ?_; rintro e w9 ⟨rfl, hb9⟩; have P9 := Lib.hid (P3.out.step hb9); clear P3 hb9 e0 e1 e2 e3 e4 e5 f0 f1 f2 f3 f4 f5 el; obtain ⟨e0, e1, e2, e3, e4, e5, f0, f1, f2, f3, f4, f5, el⟩ := ev_open P9.out.ev; obtain ⟨r0, r1, r2, r3, r4, r5, t0, t1, t2, t3, t4, t5, rl⟩ := ev_open (x0 := .int .i64 0) (x1 := .int .i64 0) (x2 := .int .i64 0) (x3 := .int .i64 0) (x4 := .string ⟨#[]⟩) (x5 := .string ⟨#[]⟩) (rz_res P9.out))
          exact bodyPost_ret (v := zV) (res_cell Tryz.results11 rfl (ev_load (ev_put (rz_res P9.out))) rfl) rfl ⟨by rw [HQ.out], ev_bel P9.out.bel (Nat.le_refl _)⟩
      obtain rfl : kd = 0 := hkd.symm.trans (kdU_0 (fun k h1 h9 => by
        have hc : k = 1 ∨ k = 2 ∨ k = 3 ∨ k = 4 ∨ k = 5 ∨ k = 6 ∨ k = 7 ∨ k = 8 ∨ k = 9 := by omega
        rcases hc with rfl | rfl | rfl | rfl | rfl | rfl | rfl | rfl | rfl
        · exact c1
        · exact c2
        · exact c3
        · exact c4
        · exact c5
        · exact c6
        · exact c7
        · exact c8
        · exact c9))
      have HKK : Hid (z0.data.toList ≠ word 1 ∧ z0.data.toList ≠ word 2 ∧ z0.data.toList ≠ word 3 ∧ z0.data.toList ≠ word 4 ∧ z0.data.toList ≠ word 5 ∧ z0.data.toList ≠ word 6 ∧ z0.data.toList ≠ word 7 ∧ z0.data.toList ≠ word 8 ∧ z0.data.toList ≠ word 9) := ⟨c1, c2, c3, c4, c5, c6, c7, c8, c9⟩
      clear hkd c1 c2 c3 c4 c5 c6 c7 c8 c9
      have P1 : Hid (PZ w (KR w) g c bx (ts ++ em5) #[(.int .i64 (0)), (.int .i64 (0)), (.int .i64 (0)), (.int .i64 (0)), (.string ⟨#[]⟩), (.string ⟨#[]⟩)] wr) := HP
      clear HP
      obtain ⟨e0, e1, e2, e3, e4, e5, f0, f1, f2, f3, f4, f5, el⟩ := ev_open P1.out.ev; have p0 := P1.out.piece HZ0.out; have p1 := P1.out.piece HZ1.out; have p2 := P1.out.piece HZ2.out; have p3 := P1.out.piece HZ3.out; have p4 := P1.out.piece HZ4.out
      go_upto_region 9 with (go_at_call 29; refine (Number_any z1 _).mono ?_; rintro e w7 ⟨⟨n1, rfl, hn1⟩, hb7⟩; have P2 := Lib.hid (P1.out.step hb7); have HR1 := Lib.hid (reads_num hn1); clear P1 hn1 hb7 e0 e1 e2 e3 e4 e5 f0 f1 f2 f3 f4 f5 el p0 p1 p2 p3 p4; obtain ⟨e0, e1, e2, e3, e4, e5, f0, f1, f2, f3, f4, f5, el⟩ := ev_open P2.out.ev)
      have P3 := Lib.hid (P2.out.set1 (.int .i64 (n1)))
      generalize w7.setCell ⟨bx, 1, none⟩ (.int .i64 (n1)) = W3 at *
      clear P2 e0 e1 e2 e3 e4 e5 f0 f1 f2 f3 f4 f5 el
      try clear p0 p1 p2 p3 p4
      obtain ⟨e0, e1, e2, e3, e4, e5, f0, f1, f2, f3, f4, f5, el⟩ := ev_open P3.out.ev; have p0 := P3.out.piece HZ0.out; have p1 := P3.out.piece HZ1.out; have p2 := P3.out.piece HZ2.out; have p3 := P3.out.piece HZ3.out; have p4 := P3.out.piece HZ4.out
      go_upto_region 27 with fail
      clear e0 e1 e2 e3 e4 e5 f0 f1 f2 f3 f4 f5 el p0 p1 p2 p3 p4
      have HR2 := Lib.hid (pvS_reads z2.data.toList)
      have HR3 := Lib.hid (pvS_reads z3.data.toList)
      have HT := HPAR.out _ _ _ HR1.out HR2.out HR3.out 0 (n1) (0) (0) ⟨#[]⟩ ⟨#[]⟩ (by simp [mkE, HKK.out.1, HKK.out.2.1, HKK.out.2.2.1, HKK.out.2.2.2.1, HKK.out.2.2.2.2.1, HKK.out.2.2.2.2.2.1, HKK.out.2.2.2.2.2.2.1, HKK.out.2.2.2.2.2.2.2.1, HKK.out.2.2.2.2.2.2.2.2])
      have CT := Lib.hid (fun W hG => RText_any 0 (n1) (0) (0) ⟨#[]⟩ ⟨#[]⟩ W hG (by decide) (by decide))
      clear HPAR HKK HR1 HR2 HR3
      rcases HT with ⟨q1, q2⟩ | ⟨x, q1, q3, q2⟩ | ⟨q1, q2⟩
      · rw [q1] at CT
        dsimp only at CT
        have HQ := Lib.hid q2
        clear q1 q2
        have E1 := ev_open P3.out.ev
        obtain ⟨e0, e1, e2, e3, e4, e5, f0, f1, f2, f3, f4, f5, el⟩ := E1
        go_wp2_with (go_at_call 9; refine (CT.out _ (gstep HG.out P3.out.bel)).mono ?_; rintro e w9 ⟨rfl, hb9⟩; have P9 := Lib.hid (P3.out.step hb9); clear P3 hb9 e0 e1 e2 e3 e4 e5 f0 f1 f2 f3 f4 f5 el; obtain ⟨e0, e1, e2, e3, e4, e5, f0, f1, f2, f3, f4, f5, el⟩ := ev_open P9.out.ev; obtain ⟨r0, r1, r2, r3, r4, r5, t0, t1, t2, t3, t4, t5, rl⟩ := ev_open (x0 := .int .i64 0) (x1 := .int .i64 0) (x2 := .int .i64 0) (x3 := .int .i64 0) (x4 := .string ⟨#[]⟩) (x5 := .string ⟨#[]⟩) (rz_res P9.out))
        exact bodyPost_ret (v := .tuple #[.agg #[(.int .i64 (0)), (.int .i64 (n1)), (.int .i64 (0)), (.int .i64 (0)), (.string ⟨#[]⟩), (.string ⟨#[]⟩)], .int .i64 0]) (res_cell Tryz.results11 rfl (ev_load (ev_put (rz_res P9.out))) rfl) rfl ⟨by rw [HQ.out], ev_bel P9.out.bel (Nat.le_refl _)⟩
      · rw [q1] at CT
        dsimp only at CT
        have HQ := Lib.hid q2
        clear q1 q2
        have d1 := ba_nl q3
        have d2 : (x.toList == s.toList) = false := by simpa using d1
        clear q3
        have E1 := ev_open P3.out.ev
        obtain ⟨e0, e1, e2, e3, e4, e5, f0, f1, f2, f3, f4, f5, el⟩ := E1
        go_wp2_with (go_at_call 9; refine (CT.out _ (gstep HG.out P3.out.bel)).mono ?_; rintro e w9 ⟨rfl, hb9⟩; have P9 := Lib.hid (P3.out.step hb9); clear P3 hb9 e0 e1 e2 e3 e4 e5 f0 f1 f2 f3 f4 f5 el; obtain ⟨e0, e1, e2, e3, e4, e5, f0, f1, f2, f3, f4, f5, el⟩ := ev_open P9.out.ev; obtain ⟨r0, r1, r2, r3, r4, r5, t0, t1, t2, t3, t4, t5, rl⟩ := ev_open (x0 := .int .i64 0) (x1 := .int .i64 0) (x2 := .int .i64 0) (x3 := .int .i64 0) (x4 := .string ⟨#[]⟩) (x5 := .string ⟨#[]⟩) (rz_res P9.out))
        exact bodyPost_ret (v := zV) (res_cell Tryz.results11 rfl (ev_load (ev_put (rz_res P9.out))) rfl) rfl ⟨by rw [HQ.out], ev_bel P9.out.bel (Nat.le_refl _)⟩
      · rw [q1] at CT
        dsimp only at CT
        have HQ := Lib.hid q2
        clear q1 q2
        have E1 := ev_open P3.out.ev
        obtain ⟨e0, e1, e2, e3, e4, e5, f0, f1, f2, f3, f4, f5, el⟩ := E1
        go_wp2_with (go_at_call 9; refine (CT.out _ (gstep HG.out P3.out.bel)).mono ?_; rintro e w9 ⟨rfl, hb9⟩; have P9 := Lib.hid (P3.out.step hb9); clear P3 hb9 e0 e1 e2 e3 e4 e5 f0 f1 f2 f3 f4 f5 el; obtain ⟨e0, e1, e2, e3, e4, e5, f0, f1, f2, f3, f4, f5, el⟩ := ev_open P9.out.ev; obtain ⟨r0, r1, r2, r3, r4, r5, t0, t1, t2, t3, t4, t5, rl⟩ := ev_open (x0 := .int .i64 0) (x1 := .int .i64 0) (x2 := .int .i64 0) (x3 := .int .i64 0) (x4 := .string ⟨#[]⟩) (x5 := .string ⟨#[]⟩) (rz_res P9.out))
        exact bodyPost_ret (v := zV) (res_cell Tryz.results11 rfl (ev_load (ev_put (rz_res P9.out))) rfl) rfl ⟨by rw [HQ.out], ev_bel P9.out.bel (Nat.le_refl _)⟩
end Go.Proofs.YtdelgbdiofkndaaGreatDoor
