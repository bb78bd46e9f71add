/-
  Parse of package passport: the walk.
-/
import Derived.Test.YtdelgbdiofkndaaGreatDoorG19Events
set_option linter.unusedSimpArgs false
set_option linter.unusedVariables false
namespace Go.Proofs.YtdelgbdiofkndaaGreatDoor
open Sx Go.RowKit Mr
set_option maxHeartbeats 8000000 in
set_option maxRecDepth 20000 in
theorem PParse_any (s : ByteArray) (w : World) (hs : s.size ≤ 10000) (hG : Glob0 w) : Calls Tryz.prog 10 #[.string s] w fun e w' => e = .returned (paV (parE s.data.toList)) ∧ Below w.heap.size w w' := by
  obtain ⟨j0, hj, hy0, hy1, hy2⟩ := info_parts infoS
  have HG := Lib.hid hG
  have hpl := pcz_len s
  have CS : Hid (Calls Tryz.prog 25 #[.string s, .string ⟨#[32]⟩] (w.alloc (.cells evZ 23)) fun e w' => e = .returned (.slice (some ⟨w.heap.size + 1, 0, none⟩) (pcz s).length (pcz s).length) ∧ w' = (w.alloc (.cells evZ 23)).alloc (.cells ((pcz s).map Value.string).toArray 9)) := by
    have h := split_any s (w.alloc (.cells evZ 23)) (by omega) (gstep hG Mr.bAl)
    rw [show (w.alloc (.cells evZ 23)).heap.size = w.heap.size + 1 by simp] at h
    exact h
  have HM := Lib.hid (pz_ahead w (pcz s) (by unfold maxLen; omega))
  have HZ := Lib.hid (fun j (hj : j < 5) => zj_of (l := s.data.toList) (ts := pcz s) (m := s.data.toList.length + 10 + (spl s.data.toList).length) (by rw [pcz_spl, List.take_of_length_le (by omega)]) (show j < _ by omega) hj)
  have hzs : ∀ j, (zj s.data.toList j).size ≤ 1000000 := fun j => Nat.le_trans (zj_size (l := s.data.toList) (n := 10000) (by rw [← Lib.size_eq]; exact hs) j) (by decide)
  have HZs1 := Lib.hid (hzs 1)
  have HZs2 := Lib.hid (hzs 2)
  have HZs3 := Lib.hid (hzs 3)
  have HZs4 := Lib.hid (hzs 4)
  have HPAR : Hid (∀ k t a b nm ot, mkE (zj s.data.toList 0).data.toList (zj s.data.toList 2).data.toList (zj s.data.toList 3).data.toList (zj s.data.toList 4).data.toList (pvS (zj s.data.toList 1).data.toList) (pvS (zj s.data.toList 2).data.toList) (pvS (zj s.data.toList 3).data.toList) = (k, t, a, b, nm, ot) → TC s (paV (parE s.data.toList)) k t a b nm ot) :=
    fun k t a b nm ot he => tc_of (pvS_reads _) (pvS_reads _) (pvS_reads _) he
  clear hG hzs
  generalize paV (parE s.data.toList) = R at *
  obtain ⟨ts, hts⟩ : ∃ ts, pcz s = ts := ⟨_, rfl⟩
  rw [hts] at CS HM HZ hpl
  clear hts
  have HC := Lib.hid (pz_cells w ts)
  have HLn : Hid ((ts ++ em5).length = ts.length + 5) := by unfold Hid; rw [List.length_append]; rfl
  replace HZ : Hid (∀ j, j < 5 → (ts ++ em5)[j]? = some (zj s.data.toList j)) := HZ
  have HZ0 := Lib.hid (HZ.out 0 (by decide))
  have HZ1 := Lib.hid (HZ.out 1 (by decide))
  have HZ2 := Lib.hid (HZ.out 2 (by decide))
  have HZ3 := Lib.hid (HZ.out 3 (by decide))
  have HZ4 := Lib.hid (HZ.out 4 (by decide))
  clear HZ
  generalize zj s.data.toList 0 = z0 at *
  generalize zj s.data.toList 1 = z1 at *
  generalize zj s.data.toList 2 = z2 at *
  generalize zj s.data.toList 3 = z3 at *
  generalize zj s.data.toList 4 = z4 at *
  go_enter Tryz.func10, Tryz.ntmps10
  go_upto_if 21 with (first
    | (go_at_call 25; refine CS.out.mono ?_; rintro e w1 ⟨rfl, rfl⟩)
    | (at_builtin; obtain ⟨L0, m1, -⟩ := id HM.out; refine wpList_app _ rfl (.tmp 11) (.tmp 12) 47 rfl w.heap.size 9 j0 (.string ⟨#[]⟩) 1 16 Tryz.underlying47 hj hy0 hy1 hy2 rfl (by decide) _ ts.length (ts.map Value.string) rfl (m1.own 0 _ rfl) (some ⟨_, 0, none⟩) 5 5 (em5.map Value.string) rfl rfl HC.out (str_one _) (by unfold maxLen; omega) (by omega) m1.sz ?_; intro v' w5 hown hgrow hat; obtain ⟨g, c, rfl, hz5, ⟨cs5, hb5⟩, hP⟩ := pz_behind HM.out hown hgrow hat; obtain ⟨l0, l1, l2⟩ := one_open hb5; have P0 := Lib.hid hP; clear hown hgrow hat hP hb5 m1)
    | (go_at_call 26; refine (pz_num 1 P0.out HZ1.out HLn.out (by decide) HZs1.out (gstep HG.out P0.out.bel)).mono ?_; rintro e w6 ⟨rfl, hP6⟩; have P1 := Lib.hid hP6; clear P0 hP6 l0 l1 l2; generalize w5.heap.size = bx at *; obtain ⟨e0, e1, e2, e3, e4, e5, f0, f1, f2, f3, f4, f5, el⟩ := ev_open (x0 := .int .i64 0) (x1 := .int .i64 0) (x2 := .int .i64 0) (x3 := .int .i64 0) (x4 := .string ⟨#[]⟩) (x5 := .string ⟨#[]⟩) P1.out.ev; obtain ⟨l0, l1, l2⟩ := pz_lb P1.out; obtain ⟨n0, n1, n2⟩ := pz_ne P1.out (by simp [em5]); have p0 := P1.out.piece HZ0.out))
  have P2 : Hid (PZ w (KP w g (ts.length + 5) c) g c bx (ts ++ em5) #[.int .i64 0, .int .i64 (pvS z1.data.toList), .int .i64 0, .int .i64 0, .string ⟨#[]⟩, .string ⟨#[]⟩] (w6.setCell ⟨bx, 1, none⟩ (.int .i64 (pvS z1.data.toList)))) := PZ.set1 (x0 := .int .i64 0) (x1 := .int .i64 0) (x2 := .int .i64 0) (x3 := .int .i64 0) (x4 := .string ⟨#[]⟩) (x5 := .string ⟨#[]⟩) P1.out _
  clear P1 p0 l0 l1 l2 e0 e1 e2 e3 e4 e5 f0 f1 f2 f3 f4 f5 el CS HM HC
  generalize w6.setCell ⟨bx, 1, none⟩ (.int .i64 (pvS z1.data.toList)) = W2 at *
  obtain ⟨e0, e1, e2, e3, e4, e5, f0, f1, f2, f3, f4, f5, el⟩ := ev_open P2.out.ev
  obtain ⟨l0, l1, l2⟩ := pz_lb P2.out
  by_cases c1 : z0.data.toList = [109, 97, 100, 101]
  · have b1 := z_eq (z := z0) (l := [109, 97, 100, 101]) c1
    have HKK : Hid (z0.data.toList = word 1) := c1
    clear c1
    simp only [b1]
    go_upto_region 8 with fail
    refine region_all 15 16 108 [(8, 108), (10, 109), (12, 110), (14, 111)] [(none, []), (none, []), (none, []), (none, []), (none, []), (none, []), (none, []), (none, []), (some 0, []), (none, []), (some 1, []), (none, []), (some 2, []), (none, []), (some 3, [])] [(23, (.func (.func 26) #[] #[.pointer (some ⟨w.heap.size + 1 + 1, 0, none⟩)])), (24, (.int .i64 (pvS z2.data.toList))), (25, (.func (.func 26) #[] #[.pointer (some ⟨w.heap.size + 1 + 1, 0, none⟩)])), (26, (.int .i64 (pvS z3.data.toList))), (27, (.slice (some ⟨g, 0, none⟩) (ts.length + 5) c)), (28, (.pointer (some ⟨g, 4, none⟩))), (29, (.string z4)), (30, (.pointer (some ⟨bx, 0, none⟩))), (31, (.pointer (some ⟨bx, 2, none⟩))), (32, (.pointer (some ⟨bx, 3, none⟩))), (33, (.pointer (some ⟨bx, 4, none⟩)))] (fun bsE vsE W => PZ w (KP w g (ts.length + 5) c) g c bx (ts ++ em5) #[(bif (bsE.getD 0 false) then (.int .i64 (1)) else (.int .i64 (0))), (.int .i64 (pvS z1.data.toList)), (bif (bsE.getD 1 false) then (.int .i64 (pvS z2.data.toList)) else (.int .i64 (0))), (bif (bsE.getD 2 false) then (.int .i64 (pvS z3.data.toList)) else (.int .i64 (0))), (bif (bsE.getD 3 false) then (.string z4) else (.string ⟨#[]⟩)), (.string ⟨#[]⟩)] W) (by kernel_rfl) (by kernel_rfl) rfl rfl (by kernel_rfl) (by rfl) ?h0 ?each ?done
    case h0 =>
      intro vsE hlv
      obtain ⟨v0, vsE0, rfl, hlv0⟩ := len_one hlv
      obtain ⟨v1, vsE1, rfl, hlv1⟩ := len_one hlv0
      obtain ⟨v2, vsE2, rfl, hlv2⟩ := len_one hlv1
      obtain ⟨v3, vsE3, rfl, hlv3⟩ := len_one hlv2
      obtain rfl := len_nil hlv3
      exact P2.out.step (Below.refl _ _).drew
    case each =>
      simp only [AllE]
      refine ⟨?_, ?_, ?_, ?_, ?_, ?_, ?_, ?_, ?_, ?_, ?_, ?_, ?_, ?_, ?_, trivial⟩
      · refine ⟨23, (.func (.func 26) #[] #[.pointer (some ⟨w.heap.size + 1 + 1, 0, none⟩)]), rfl, by kernel_rfl, ?_⟩
        intro bsE vsE W hlb hlv hnd h
        obtain ⟨b0, bsE0, rfl, hlb0⟩ := len_one hlb
        obtain ⟨v0, vsE0, rfl, hlv0⟩ := len_one hlv
        obtain ⟨b1, bsE1, rfl, hlb1⟩ := len_one hlb0
        obtain ⟨v1, vsE1, rfl, hlv1⟩ := len_one hlv0
        obtain ⟨b2, bsE2, rfl, hlb2⟩ := len_one hlb1
        obtain ⟨v2, vsE2, rfl, hlv2⟩ := len_one hlv1
        obtain ⟨b3, bsE3, rfl, hlb3⟩ := len_one hlb2
        obtain ⟨v3, vsE3, rfl, hlv3⟩ := len_one hlv2
        obtain rfl := len_nil hlb3
        obtain rfl := len_nil hlv3
        replace h : PZ w (KP w g (ts.length + 5) c) g c bx (ts ++ em5) #[(bif b0 then (.int .i64 (1)) else (.int .i64 (0))), (.int .i64 (pvS z1.data.toList)), (bif b1 then (.int .i64 (pvS z2.data.toList)) else (.int .i64 (0))), (bif b2 then (.int .i64 (pvS z3.data.toList)) else (.int .i64 (0))), (bif b3 then (.string z4) else (.string ⟨#[]⟩)), (.string ⟨#[]⟩)] W := h
        clear hnd
        have HST := Lib.hid h
        obtain ⟨e0, e1, e2, e3, e4, e5, f0, f1, f2, f3, f4, f5, el⟩ := ev_open h.ev; obtain ⟨l0, l1, l2⟩ := pz_lb h; have p2 := h.piece HZ2.out; have p3 := h.piece HZ3.out; have p4 := h.piece HZ4.out
        intro K Q hK
        simp only [putE, updAll, Act.put, List.setIfInBounds_toArray, List.set_cons_zero, List.set_cons_succ, List.set_nil] at hK ⊢
        go_wp2_with (fail)
        all_goals (first | exact hK _ (by first | exact h | exact h.step (by repeat' (first | exact Below.refl _ _ | apply bDrewN | apply bDrew))) | exact (by first | exact h | exact h.step (by repeat' (first | exact Below.refl _ _ | apply bDrewN | apply bDrew))))
      · refine ⟨24, (.int .i64 (pvS z2.data.toList)), rfl, by kernel_rfl, ?_⟩
        intro bsE vsE W hlb hlv hnd h
        obtain ⟨b0, bsE0, rfl, hlb0⟩ := len_one hlb
        obtain ⟨v0, vsE0, rfl, hlv0⟩ := len_one hlv
        obtain ⟨b1, bsE1, rfl, hlb1⟩ := len_one hlb0
        obtain ⟨v1, vsE1, rfl, hlv1⟩ := len_one hlv0
        obtain ⟨b2, bsE2, rfl, hlb2⟩ := len_one hlb1
        obtain ⟨v2, vsE2, rfl, hlv2⟩ := len_one hlv1
        obtain ⟨b3, bsE3, rfl, hlb3⟩ := len_one hlb2
        obtain ⟨v3, vsE3, rfl, hlv3⟩ := len_one hlv2
        obtain rfl := len_nil hlb3
        obtain rfl := len_nil hlv3
        replace h : PZ w (KP w g (ts.length + 5) c) g c bx (ts ++ em5) #[(bif b0 then (.int .i64 (1)) else (.int .i64 (0))), (.int .i64 (pvS z1.data.toList)), (bif b1 then (.int .i64 (pvS z2.data.toList)) else (.int .i64 (0))), (bif b2 then (.int .i64 (pvS z3.data.toList)) else (.int .i64 (0))), (bif b3 then (.string z4) else (.string ⟨#[]⟩)), (.string ⟨#[]⟩)] W := h
        clear hnd
        have HST := Lib.hid h
        obtain ⟨e0, e1, e2, e3, e4, e5, f0, f1, f2, f3, f4, f5, el⟩ := ev_open h.ev; obtain ⟨l0, l1, l2⟩ := pz_lb h; have p2 := h.piece HZ2.out; have p3 := h.piece HZ3.out; have p4 := h.piece HZ4.out
        intro K Q hK
        simp only [putE, updAll, Act.put, List.setIfInBounds_toArray, List.set_cons_zero, List.set_cons_succ, List.set_nil] at hK ⊢
        go_wp2_with (go_at_call 26; refine (pz_num 2 h HZ2.out HLn.out (by decide) HZs2.out (gstep HG.out h.bel)).mono ?_; rintro e w7 ⟨rfl, hP7⟩)
        all_goals (first | exact hK _ hP7 | exact hP7)
      · refine ⟨25, (.func (.func 26) #[] #[.pointer (some ⟨w.heap.size + 1 + 1, 0, none⟩)]), rfl, by kernel_rfl, ?_⟩
        intro bsE vsE W hlb hlv hnd h
        obtain ⟨b0, bsE0, rfl, hlb0⟩ := len_one hlb
        obtain ⟨v0, vsE0, rfl, hlv0⟩ := len_one hlv
        obtain ⟨b1, bsE1, rfl, hlb1⟩ := len_one hlb0
        obtain ⟨v1, vsE1, rfl, hlv1⟩ := len_one hlv0
        obtain ⟨b2, bsE2, rfl, hlb2⟩ := len_one hlb1
        obtain ⟨v2, vsE2, rfl, hlv2⟩ := len_one hlv1
        obtain ⟨b3, bsE3, rfl, hlb3⟩ := len_one hlb2
        obtain ⟨v3, vsE3, rfl, hlv3⟩ := len_one hlv2
        obtain rfl := len_nil hlb3
        obtain rfl := len_nil hlv3
        replace h : PZ w (KP w g (ts.length + 5) c) g c bx (ts ++ em5) #[(bif b0 then (.int .i64 (1)) else (.int .i64 (0))), (.int .i64 (pvS z1.data.toList)), (bif b1 then (.int .i64 (pvS z2.data.toList)) else (.int .i64 (0))), (bif b2 then (.int .i64 (pvS z3.data.toList)) else (.int .i64 (0))), (bif b3 then (.string z4) else (.string ⟨#[]⟩)), (.string ⟨#[]⟩)] W := h
        clear hnd
        have HST := Lib.hid h
        obtain ⟨e0, e1, e2, e3, e4, e5, f0, f1, f2, f3, f4, f5, el⟩ := ev_open h.ev; obtain ⟨l0, l1, l2⟩ := pz_lb h; have p2 := h.piece HZ2.out; have p3 := h.piece HZ3.out; have p4 := h.piece HZ4.out
        intro K Q hK
        simp only [putE, updAll, Act.put, List.setIfInBounds_toArray, List.set_cons_zero, List.set_cons_succ, List.set_nil] at hK ⊢
        go_wp2_with (fail)
        all_goals (first | exact hK _ (by first | exact h | exact h.step (by repeat' (first | exact Below.refl _ _ | apply bDrewN | apply bDrew))) | exact (by first | exact h | exact h.step (by repeat' (first | exact Below.refl _ _ | apply bDrewN | apply bDrew))))
      · refine ⟨26, (.int .i64 (pvS z3.data.toList)), rfl, by kernel_rfl, ?_⟩
        intro bsE vsE W hlb hlv hnd h
        obtain ⟨b0, bsE0, rfl, hlb0⟩ := len_one hlb
        obtain ⟨v0, vsE0, rfl, hlv0⟩ := len_one hlv
        obtain ⟨b1, bsE1, rfl, hlb1⟩ := len_one hlb0
        obtain ⟨v1, vsE1, rfl, hlv1⟩ := len_one hlv0
        obtain ⟨b2, bsE2, rfl, hlb2⟩ := len_one hlb1
        obtain ⟨v2, vsE2, rfl, hlv2⟩ := len_one hlv1
        obtain ⟨b3, bsE3, rfl, hlb3⟩ := len_one hlb2
        obtain ⟨v3, vsE3, rfl, hlv3⟩ := len_one hlv2
        obtain rfl := len_nil hlb3
        obtain rfl := len_nil hlv3
        replace h : PZ w (KP w g (ts.length + 5) c) g c bx (ts ++ em5) #[(bif b0 then (.int .i64 (1)) else (.int .i64 (0))), (.int .i64 (pvS z1.data.toList)), (bif b1 then (.int .i64 (pvS z2.data.toList)) else (.int .i64 (0))), (bif b2 then (.int .i64 (pvS z3.data.toList)) else (.int .i64 (0))), (bif b3 then (.string z4) else (.string ⟨#[]⟩)), (.string ⟨#[]⟩)] W := h
        clear hnd
        have HST := Lib.hid h
        obtain ⟨e0, e1, e2, e3, e4, e5, f0, f1, f2, f3, f4, f5, el⟩ := ev_open h.ev; obtain ⟨l0, l1, l2⟩ := pz_lb h; have p2 := h.piece HZ2.out; have p3 := h.piece HZ3.out; have p4 := h.piece HZ4.out
        intro K Q hK
        simp only [putE, updAll, Act.put, List.setIfInBounds_toArray, List.set_cons_zero, List.set_cons_succ, List.set_nil] at hK ⊢
        go_wp2_with (go_at_call 26; refine (pz_num 3 h HZ3.out HLn.out (by decide) HZs3.out (gstep HG.out h.bel)).mono ?_; rintro e w7 ⟨rfl, hP7⟩)
        all_goals (first | exact hK _ hP7 | exact hP7)
      · refine ⟨27, (.slice (some ⟨g, 0, none⟩) (ts.length + 5) c), rfl, by kernel_rfl, ?_⟩
        intro bsE vsE W hlb hlv hnd h
        obtain ⟨b0, bsE0, rfl, hlb0⟩ := len_one hlb
        obtain ⟨v0, vsE0, rfl, hlv0⟩ := len_one hlv
        obtain ⟨b1, bsE1, rfl, hlb1⟩ := len_one hlb0
        obtain ⟨v1, vsE1, rfl, hlv1⟩ := len_one hlv0
        obtain ⟨b2, bsE2, rfl, hlb2⟩ := len_one hlb1
        obtain ⟨v2, vsE2, rfl, hlv2⟩ := len_one hlv1
        obtain ⟨b3, bsE3, rfl, hlb3⟩ := len_one hlb2
        obtain ⟨v3, vsE3, rfl, hlv3⟩ := len_one hlv2
        obtain rfl := len_nil hlb3
        obtain rfl := len_nil hlv3
        replace h : PZ w (KP w g (ts.length + 5) c) g c bx (ts ++ em5) #[(bif b0 then (.int .i64 (1)) else (.int .i64 (0))), (.int .i64 (pvS z1.data.toList)), (bif b1 then (.int .i64 (pvS z2.data.toList)) else (.int .i64 (0))), (bif b2 then (.int .i64 (pvS z3.data.toList)) else (.int .i64 (0))), (bif b3 then (.string z4) else (.string ⟨#[]⟩)), (.string ⟨#[]⟩)] W := h
        clear hnd
        have HST := Lib.hid h
        obtain ⟨e0, e1, e2, e3, e4, e5, f0, f1, f2, f3, f4, f5, el⟩ := ev_open h.ev; obtain ⟨l0, l1, l2⟩ := pz_lb h; have p2 := h.piece HZ2.out; have p3 := h.piece HZ3.out; have p4 := h.piece HZ4.out
        intro K Q hK
        simp only [putE, updAll, Act.put, List.setIfInBounds_toArray, List.set_cons_zero, List.set_cons_succ, List.set_nil] at hK ⊢
        go_wp2_with (fail)
        all_goals (first | exact hK _ (by first | exact h | exact h.step (by repeat' (first | exact Below.refl _ _ | apply bDrewN | apply bDrew))) | exact (by first | exact h | exact h.step (by repeat' (first | exact Below.refl _ _ | apply bDrewN | apply bDrew))))
      · refine ⟨28, (.pointer (some ⟨g, 4, none⟩)), rfl, by kernel_rfl, ?_⟩
        intro bsE vsE W hlb hlv hnd h
        obtain ⟨b0, bsE0, rfl, hlb0⟩ := len_one hlb
        obtain ⟨v0, vsE0, rfl, hlv0⟩ := len_one hlv
        obtain ⟨b1, bsE1, rfl, hlb1⟩ := len_one hlb0
        obtain ⟨v1, vsE1, rfl, hlv1⟩ := len_one hlv0
        obtain ⟨b2, bsE2, rfl, hlb2⟩ := len_one hlb1
        obtain ⟨v2, vsE2, rfl, hlv2⟩ := len_one hlv1
        obtain ⟨b3, bsE3, rfl, hlb3⟩ := len_one hlb2
        obtain ⟨v3, vsE3, rfl, hlv3⟩ := len_one hlv2
        obtain rfl := len_nil hlb3
        obtain rfl := len_nil hlv3
        replace h : PZ w (KP w g (ts.length + 5) c) g c bx (ts ++ em5) #[(bif b0 then (.int .i64 (1)) else (.int .i64 (0))), (.int .i64 (pvS z1.data.toList)), (bif b1 then (.int .i64 (pvS z2.data.toList)) else (.int .i64 (0))), (bif b2 then (.int .i64 (pvS z3.data.toList)) else (.int .i64 (0))), (bif b3 then (.string z4) else (.string ⟨#[]⟩)), (.string ⟨#[]⟩)] W := h
        clear hnd
        have HST := Lib.hid h
        obtain ⟨e0, e1, e2, e3, e4, e5, f0, f1, f2, f3, f4, f5, el⟩ := ev_open h.ev; obtain ⟨l0, l1, l2⟩ := pz_lb h; have p2 := h.piece HZ2.out; have p3 := h.piece HZ3.out; have p4 := h.piece HZ4.out
        intro K Q hK
        simp only [putE, updAll, Act.put, List.setIfInBounds_toArray, List.set_cons_zero, List.set_cons_succ, List.set_nil] at hK ⊢
        go_wp2_with (fail)
        all_goals (first | exact hK _ (by first | exact h | exact h.step (by repeat' (first | exact Below.refl _ _ | apply bDrewN | apply bDrew))) | exact (by first | exact h | exact h.step (by repeat' (first | exact Below.refl _ _ | apply bDrewN | apply bDrew))))
      · refine ⟨29, (.string z4), rfl, by kernel_rfl, ?_⟩
        intro bsE vsE W hlb hlv hnd h
        obtain ⟨b0, bsE0, rfl, hlb0⟩ := len_one hlb
        obtain ⟨v0, vsE0, rfl, hlv0⟩ := len_one hlv
        obtain ⟨b1, bsE1, rfl, hlb1⟩ := len_one hlb0
        obtain ⟨v1, vsE1, rfl, hlv1⟩ := len_one hlv0
        obtain ⟨b2, bsE2, rfl, hlb2⟩ := len_one hlb1
        obtain ⟨v2, vsE2, rfl, hlv2⟩ := len_one hlv1
        obtain ⟨b3, bsE3, rfl, hlb3⟩ := len_one hlb2
        obtain ⟨v3, vsE3, rfl, hlv3⟩ := len_one hlv2
        obtain rfl := len_nil hlb3
        obtain rfl := len_nil hlv3
        replace h : PZ w (KP w g (ts.length + 5) c) g c bx (ts ++ em5) #[(bif b0 then (.int .i64 (1)) else (.int .i64 (0))), (.int .i64 (pvS z1.data.toList)), (bif b1 then (.int .i64 (pvS z2.data.toList)) else (.int .i64 (0))), (bif b2 then (.int .i64 (pvS z3.data.toList)) else (.int .i64 (0))), (bif b3 then (.string z4) else (.string ⟨#[]⟩)), (.string ⟨#[]⟩)] W := h
        clear hnd
        have HST := Lib.hid h
        obtain ⟨e0, e1, e2, e3, e4, e5, f0, f1, f2, f3, f4, f5, el⟩ := ev_open h.ev; obtain ⟨l0, l1, l2⟩ := pz_lb h; have p2 := h.piece HZ2.out; have p3 := h.piece HZ3.out; have p4 := h.piece HZ4.out
        intro K Q hK
        simp only [putE, updAll, Act.put, List.setIfInBounds_toArray, List.set_cons_zero, List.set_cons_succ, List.set_nil] at hK ⊢
        go_wp2_with (fail)
        all_goals (first | exact hK _ (by first | exact h | exact h.step (by repeat' (first | exact Below.refl _ _ | apply bDrewN | apply bDrew))) | exact (by first | exact h | exact h.step (by repeat' (first | exact Below.refl _ _ | apply bDrewN | apply bDrew))))
      · refine ⟨30, (.pointer (some ⟨bx, 0, none⟩)), rfl, by kernel_rfl, ?_⟩
        intro bsE vsE W hlb hlv hnd h
        obtain ⟨b0, bsE0, rfl, hlb0⟩ := len_one hlb
        obtain ⟨v0, vsE0, rfl, hlv0⟩ := len_one hlv
        obtain ⟨b1, bsE1, rfl, hlb1⟩ := len_one hlb0
        obtain ⟨v1, vsE1, rfl, hlv1⟩ := len_one hlv0
        obtain ⟨b2, bsE2, rfl, hlb2⟩ := len_one hlb1
        obtain ⟨v2, vsE2, rfl, hlv2⟩ := len_one hlv1
        obtain ⟨b3, bsE3, rfl, hlb3⟩ := len_one hlb2
        obtain ⟨v3, vsE3, rfl, hlv3⟩ := len_one hlv2
        obtain rfl := len_nil hlb3
        obtain rfl := len_nil hlv3
        replace h : PZ w (KP w g (ts.length + 5) c) g c bx (ts ++ em5) #[(bif b0 then (.int .i64 (1)) else (.int .i64 (0))), (.int .i64 (pvS z1.data.toList)), (bif b1 then (.int .i64 (pvS z2.data.toList)) else (.int .i64 (0))), (bif b2 then (.int .i64 (pvS z3.data.toList)) else (.int .i64 (0))), (bif b3 then (.string z4) else (.string ⟨#[]⟩)), (.string ⟨#[]⟩)] W := h
        clear hnd
        have HST := Lib.hid h
        obtain ⟨e0, e1, e2, e3, e4, e5, f0, f1, f2, f3, f4, f5, el⟩ := ev_open h.ev; obtain ⟨l0, l1, l2⟩ := pz_lb h; have p2 := h.piece HZ2.out; have p3 := h.piece HZ3.out; have p4 := h.piece HZ4.out
        intro K Q hK
        simp only [putE, updAll, Act.put, List.setIfInBounds_toArray, List.set_cons_zero, List.set_cons_succ, List.set_nil] at hK ⊢
        go_wp2_with (fail)
        all_goals (first | exact hK _ (by first | exact h | exact h.step (by repeat' (first | exact Below.refl _ _ | apply bDrewN | apply bDrew))) | exact (by first | exact h | exact h.step (by repeat' (first | exact Below.refl _ _ | apply bDrewN | apply bDrew))))
      · refine Or.inr ⟨rfl, ?_⟩
        intro bsE vsE W hlb hlv hnd hbk h
        obtain ⟨b0, bsE0, rfl, hlb0⟩ := len_one hlb
        obtain ⟨v0, vsE0, rfl, hlv0⟩ := len_one hlv
        obtain ⟨b1, bsE1, rfl, hlb1⟩ := len_one hlb0
        obtain ⟨v1, vsE1, rfl, hlv1⟩ := len_one hlv0
        obtain ⟨b2, bsE2, rfl, hlb2⟩ := len_one hlb1
        obtain ⟨v2, vsE2, rfl, hlv2⟩ := len_one hlv1
        obtain ⟨b3, bsE3, rfl, hlb3⟩ := len_one hlb2
        obtain ⟨v3, vsE3, rfl, hlv3⟩ := len_one hlv2
        obtain rfl := len_nil hlb3
        obtain rfl := len_nil hlv3
        obtain rfl : b0 = false := hbk
        replace h : PZ w (KP w g (ts.length + 5) c) g c bx (ts ++ em5) #[(bif false then (.int .i64 (1)) else (.int .i64 (0))), (.int .i64 (pvS z1.data.toList)), (bif b1 then (.int .i64 (pvS z2.data.toList)) else (.int .i64 (0))), (bif b2 then (.int .i64 (pvS z3.data.toList)) else (.int .i64 (0))), (bif b3 then (.string z4) else (.string ⟨#[]⟩)), (.string ⟨#[]⟩)] W := h
        clear hnd
        have HST := Lib.hid h
        obtain ⟨e0, e1, e2, e3, e4, e5, f0, f1, f2, f3, f4, f5, el⟩ := ev_open h.ev; obtain ⟨l0, l1, l2⟩ := pz_lb h; have p2 := h.piece HZ2.out; have p3 := h.piece HZ3.out; have p4 := h.piece HZ4.out
        intro K Q hK
        simp only [putE, updAll, Act.put, List.setIfInBounds_toArray, List.set_cons_zero, List.set_cons_succ, List.set_nil] at hK ⊢
        go_wp2_with fail
        all_goals (first | exact hK _ (h.set0 _) | exact h.set0 _)
      · refine ⟨31, (.pointer (some ⟨bx, 2, none⟩)), rfl, by kernel_rfl, ?_⟩
        intro bsE vsE W hlb hlv hnd h
        obtain ⟨b0, bsE0, rfl, hlb0⟩ := len_one hlb
        obtain ⟨v0, vsE0, rfl, hlv0⟩ := len_one hlv
        obtain ⟨b1, bsE1, rfl, hlb1⟩ := len_one hlb0
        obtain ⟨v1, vsE1, rfl, hlv1⟩ := len_one hlv0
        obtain ⟨b2, bsE2, rfl, hlb2⟩ := len_one hlb1
        obtain ⟨v2, vsE2, rfl, hlv2⟩ := len_one hlv1
        obtain ⟨b3, bsE3, rfl, hlb3⟩ := len_one hlb2
        obtain ⟨v3, vsE3, rfl, hlv3⟩ := len_one hlv2
        obtain rfl := len_nil hlb3
        obtain rfl := len_nil hlv3
        replace h : PZ w (KP w g (ts.length + 5) c) g c bx (ts ++ em5) #[(bif b0 then (.int .i64 (1)) else (.int .i64 (0))), (.int .i64 (pvS z1.data.toList)), (bif b1 then (.int .i64 (pvS z2.data.toList)) else (.int .i64 (0))), (bif b2 then (.int .i64 (pvS z3.data.toList)) else (.int .i64 (0))), (bif b3 then (.string z4) else (.string ⟨#[]⟩)), (.string ⟨#[]⟩)] W := h
        clear hnd
        have HST := Lib.hid h
        obtain ⟨e0, e1, e2, e3, e4, e5, f0, f1, f2, f3, f4, f5, el⟩ := ev_open h.ev; obtain ⟨l0, l1, l2⟩ := pz_lb h; have p2 := h.piece HZ2.out; have p3 := h.piece HZ3.out; have p4 := h.piece HZ4.out
        intro K Q hK
        simp only [putE, updAll, Act.put, List.setIfInBounds_toArray, List.set_cons_zero, List.set_cons_succ, List.set_nil] at hK ⊢
        go_wp2_with (fail)
        all_goals (first | exact hK _ (by first | exact h | exact h.step (by repeat' (first | exact Below.refl _ _ | apply bDrewN | apply bDrew))) | exact (by first | exact h | exact h.step (by repeat' (first | exact Below.refl _ _ | apply bDrewN | apply bDrew))))
      · refine Or.inr ⟨rfl, ?_⟩
        intro bsE vsE W hlb hlv hnd hbk h
        obtain ⟨b0, bsE0, rfl, hlb0⟩ := len_one hlb
        obtain ⟨v0, vsE0, rfl, hlv0⟩ := len_one hlv
        obtain ⟨b1, bsE1, rfl, hlb1⟩ := len_one hlb0
        obtain ⟨v1, vsE1, rfl, hlv1⟩ := len_one hlv0
        obtain ⟨b2, bsE2, rfl, hlb2⟩ := len_one hlb1
        obtain ⟨v2, vsE2, rfl, hlv2⟩ := len_one hlv1
        obtain ⟨b3, bsE3, rfl, hlb3⟩ := len_one hlb2
        obtain ⟨v3, vsE3, rfl, hlv3⟩ := len_one hlv2
        obtain rfl := len_nil hlb3
        obtain rfl := len_nil hlv3
        obtain rfl : b1 = false := hbk
        replace h : PZ w (KP w g (ts.length + 5) c) g c bx (ts ++ em5) #[(bif b0 then (.int .i64 (1)) else (.int .i64 (0))), (.int .i64 (pvS z1.data.toList)), (bif false then (.int .i64 (pvS z2.data.toList)) else (.int .i64 (0))), (bif b2 then (.int .i64 (pvS z3.data.toList)) else (.int .i64 (0))), (bif b3 then (.string z4) else (.string ⟨#[]⟩)), (.string ⟨#[]⟩)] W := h
        clear hnd
        have HST := Lib.hid h
        obtain ⟨e0, e1, e2, e3, e4, e5, f0, f1, f2, f3, f4, f5, el⟩ := ev_open h.ev; obtain ⟨l0, l1, l2⟩ := pz_lb h; have p2 := h.piece HZ2.out; have p3 := h.piece HZ3.out; have p4 := h.piece HZ4.out
        intro K Q hK
        simp only [putE, updAll, Act.put, List.setIfInBounds_toArray, List.set_cons_zero, List.set_cons_succ, List.set_nil] at hK ⊢
        go_wp2_with fail
        all_goals (first | exact hK _ (h.set2 _) | exact h.set2 _)
      · refine ⟨32, (.pointer (some ⟨bx, 3, none⟩)), rfl, by kernel_rfl, ?_⟩
        intro bsE vsE W hlb hlv hnd h
        obtain ⟨b0, bsE0, rfl, hlb0⟩ := len_one hlb
        obtain ⟨v0, vsE0, rfl, hlv0⟩ := len_one hlv
        obtain ⟨b1, bsE1, rfl, hlb1⟩ := len_one hlb0
        obtain ⟨v1, vsE1, rfl, hlv1⟩ := len_one hlv0
        obtain ⟨b2, bsE2, rfl, hlb2⟩ := len_one hlb1
        obtain ⟨v2, vsE2, rfl, hlv2⟩ := len_one hlv1
        obtain ⟨b3, bsE3, rfl, hlb3⟩ := len_one hlb2
        obtain ⟨v3, vsE3, rfl, hlv3⟩ := len_one hlv2
        obtain rfl := len_nil hlb3
        obtain rfl := len_nil hlv3
        replace h : PZ w (KP w g (ts.length + 5) c) g c bx (ts ++ em5) #[(bif b0 then (.int .i64 (1)) else (.int .i64 (0))), (.int .i64 (pvS z1.data.toList)), (bif b1 then (.int .i64 (pvS z2.data.toList)) else (.int .i64 (0))), (bif b2 then (.int .i64 (pvS z3.data.toList)) else (.int .i64 (0))), (bif b3 then (.string z4) else (.string ⟨#[]⟩)), (.string ⟨#[]⟩)] W := h
        clear hnd
        have HST := Lib.hid h
        obtain ⟨e0, e1, e2, e3, e4, e5, f0, f1, f2, f3, f4, f5, el⟩ := ev_open h.ev; obtain ⟨l0, l1, l2⟩ := pz_lb h; have p2 := h.piece HZ2.out; have p3 := h.piece HZ3.out; have p4 := h.piece HZ4.out
        intro K Q hK
        simp only [putE, updAll, Act.put, List.setIfInBounds_toArray, List.set_cons_zero, List.set_cons_succ, List.set_nil] at hK ⊢
        go_wp2_with (fail)
        all_goals (first | exact hK _ (by first | exact h | exact h.step (by repeat' (first | exact Below.refl _ _ | apply bDrewN | apply bDrew))) | exact (by first | exact h | exact h.step (by repeat' (first | exact Below.refl _ _ | apply bDrewN | apply bDrew))))
      · refine Or.inr ⟨rfl, ?_⟩
        intro bsE vsE W hlb hlv hnd hbk h
        obtain ⟨b0, bsE0, rfl, hlb0⟩ := len_one hlb
        obtain ⟨v0, vsE0, rfl, hlv0⟩ := len_one hlv
        obtain ⟨b1, bsE1, rfl, hlb1⟩ := len_one hlb0
        obtain ⟨v1, vsE1, rfl, hlv1⟩ := len_one hlv0
        obtain ⟨b2, bsE2, rfl, hlb2⟩ := len_one hlb1
        obtain ⟨v2, vsE2, rfl, hlv2⟩ := len_one hlv1
        obtain ⟨b3, bsE3, rfl, hlb3⟩ := len_one hlb2
        obtain ⟨v3, vsE3, rfl, hlv3⟩ := len_one hlv2
        obtain rfl := len_nil hlb3
        obtain rfl := len_nil hlv3
        obtain rfl : b2 = false := hbk
        replace h : PZ w (KP w g (ts.length + 5) c) g c bx (ts ++ em5) #[(bif b0 then (.int .i64 (1)) else (.int .i64 (0))), (.int .i64 (pvS z1.data.toList)), (bif b1 then (.int .i64 (pvS z2.data.toList)) else (.int .i64 (0))), (bif false then (.int .i64 (pvS z3.data.toList)) else (.int .i64 (0))), (bif b3 then (.string z4) else (.string ⟨#[]⟩)), (.string ⟨#[]⟩)] W := h
        clear hnd
        have HST := Lib.hid h
        obtain ⟨e0, e1, e2, e3, e4, e5, f0, f1, f2, f3, f4, f5, el⟩ := ev_open h.ev; obtain ⟨l0, l1, l2⟩ := pz_lb h; have p2 := h.piece HZ2.out; have p3 := h.piece HZ3.out; have p4 := h.piece HZ4.out
        intro K Q hK
        simp only [putE, updAll, Act.put, List.setIfInBounds_toArray, List.set_cons_zero, List.set_cons_succ, List.set_nil] at hK ⊢
        go_wp2_with fail
        all_goals (first | exact hK _ (h.set3 _) | exact h.set3 _)
      · refine ⟨33, (.pointer (some ⟨bx, 4, none⟩)), rfl, by kernel_rfl, ?_⟩
        intro bsE vsE W hlb hlv hnd h
        obtain ⟨b0, bsE0, rfl, hlb0⟩ := len_one hlb
        obtain ⟨v0, vsE0, rfl, hlv0⟩ := len_one hlv
        obtain ⟨b1, bsE1, rfl, hlb1⟩ := len_one hlb0
        obtain ⟨v1, vsE1, rfl, hlv1⟩ := len_one hlv0
        obtain ⟨b2, bsE2, rfl, hlb2⟩ := len_one hlb1
        obtain ⟨v2, vsE2, rfl, hlv2⟩ := len_one hlv1
        obtain ⟨b3, bsE3, rfl, hlb3⟩ := len_one hlb2
        obtain ⟨v3, vsE3, rfl, hlv3⟩ := len_one hlv2
        obtain rfl := len_nil hlb3
        obtain rfl := len_nil hlv3
        replace h : PZ w (KP w g (ts.length + 5) c) g c bx (ts ++ em5) #[(bif b0 then (.int .i64 (1)) else (.int .i64 (0))), (.int .i64 (pvS z1.data.toList)), (bif b1 then (.int .i64 (pvS z2.data.toList)) else (.int .i64 (0))), (bif b2 then (.int .i64 (pvS z3.data.toList)) else (.int .i64 (0))), (bif b3 then (.string z4) else (.string ⟨#[]⟩)), (.string ⟨#[]⟩)] W := h
        clear hnd
        have HST := Lib.hid h
        obtain ⟨e0, e1, e2, e3, e4, e5, f0, f1, f2, f3, f4, f5, el⟩ := ev_open h.ev; obtain ⟨l0, l1, l2⟩ := pz_lb h; have p2 := h.piece HZ2.out; have p3 := h.piece HZ3.out; have p4 := h.piece HZ4.out
        intro K Q hK
        simp only [putE, updAll, Act.put, List.setIfInBounds_toArray, List.set_cons_zero, List.set_cons_succ, List.set_nil] at hK ⊢
        go_wp2_with (fail)
        all_goals (first | exact hK _ (by first | exact h | exact h.step (by repeat' (first | exact Below.refl _ _ | apply bDrewN | apply bDrew))) | exact (by first | exact h | exact h.step (by repeat' (first | exact Below.refl _ _ | apply bDrewN | apply bDrew))))
      · refine Or.inr ⟨rfl, ?_⟩
        intro bsE vsE W hlb hlv hnd hbk h
        obtain ⟨b0, bsE0, rfl, hlb0⟩ := len_one hlb
        obtain ⟨v0, vsE0, rfl, hlv0⟩ := len_one hlv
        obtain ⟨b1, bsE1, rfl, hlb1⟩ := len_one hlb0
        obtain ⟨v1, vsE1, rfl, hlv1⟩ := len_one hlv0
        obtain ⟨b2, bsE2, rfl, hlb2⟩ := len_one hlb1
        obtain ⟨v2, vsE2, rfl, hlv2⟩ := len_one hlv1
        obtain ⟨b3, bsE3, rfl, hlb3⟩ := len_one hlb2
        obtain ⟨v3, vsE3, rfl, hlv3⟩ := len_one hlv2
        obtain rfl := len_nil hlb3
        obtain rfl := len_nil hlv3
        obtain rfl : b3 = false := hbk
        replace h : PZ w (KP w g (ts.length + 5) c) g c bx (ts ++ em5) #[(bif b0 then (.int .i64 (1)) else (.int .i64 (0))), (.int .i64 (pvS z1.data.toList)), (bif b1 then (.int .i64 (pvS z2.data.toList)) else (.int .i64 (0))), (bif b2 then (.int .i64 (pvS z3.data.toList)) else (.int .i64 (0))), (bif false then (.string z4) else (.string ⟨#[]⟩)), (.string ⟨#[]⟩)] W := h
        clear hnd
        have HST := Lib.hid h
        obtain ⟨e0, e1, e2, e3, e4, e5, f0, f1, f2, f3, f4, f5, el⟩ := ev_open h.ev; obtain ⟨l0, l1, l2⟩ := pz_lb h; have p2 := h.piece HZ2.out; have p3 := h.piece HZ3.out; have p4 := h.piece HZ4.out
        intro K Q hK
        simp only [putE, updAll, Act.put, List.setIfInBounds_toArray, List.set_cons_zero, List.set_cons_succ, List.set_nil] at hK ⊢
        go_wp2_with fail
        all_goals (first | exact hK _ (h.set4 _) | exact h.set4 _)
    case done =>
      intro vsE W hlv h
      obtain ⟨v0, vsE0, rfl, hlv0⟩ := len_one hlv
      obtain ⟨v1, vsE1, rfl, hlv1⟩ := len_one hlv0
      obtain ⟨v2, vsE2, rfl, hlv2⟩ := len_one hlv1
      obtain ⟨v3, vsE3, rfl, hlv3⟩ := len_one hlv2
      obtain rfl := len_nil hlv3
      replace h : PZ w (KP w g (ts.length + 5) c) g c bx (ts ++ em5) #[(bif true then (.int .i64 (1)) else (.int .i64 (0))), (.int .i64 (pvS z1.data.toList)), (bif true then (.int .i64 (pvS z2.data.toList)) else (.int .i64 (0))), (bif true then (.int .i64 (pvS z3.data.toList)) else (.int .i64 (0))), (bif true then (.string z4) else (.string ⟨#[]⟩)), (.string ⟨#[]⟩)] W := h
      have HST := Lib.hid h
      have P5 : Hid (PZ w (KP w g (ts.length + 5) c) g c bx (ts ++ em5) #[(.int .i64 (1)), (.int .i64 (pvS z1.data.toList)), (.int .i64 (pvS z2.data.toList)), (.int .i64 (pvS z3.data.toList)), (.string z4), (.string ⟨#[]⟩)] W) := h
      clear h HST P2 l0 l1 l2 e0 e1 e2 e3 e4 e5 f0 f1 f2 f3 f4 f5 el
      simp only [putE, updAll, Act.put, List.setIfInBounds_toArray, List.set_cons_zero, List.set_cons_succ, List.set_nil]
      go_upto_region 25 with fail
      have HT := HPAR.out 1 (pvS z1.data.toList) (pvS z2.data.toList) (pvS z3.data.toList) z4 ⟨#[]⟩ (by simp [mkE, HKK.out, word])
      have CT := Lib.hid (fun W hG => PText_any 1 (pvS z1.data.toList) (pvS z2.data.toList) (pvS z3.data.toList) z4 ⟨#[]⟩ W hG HZs4.out (by decide))
      clear HPAR HKK
      rcases HT with ⟨q1, q2⟩ | ⟨x, q1, q3, q2⟩ | ⟨q1, q2⟩
      · rw [q1] at CT
        dsimp only at CT
        have HQ := Lib.hid q2
        clear q1 q2
        have E1 := ev_open P5.out.ev
        obtain ⟨e0, e1, e2, e3, e4, e5, f0, f1, f2, f3, f4, f5, el⟩ := E1
        go_wp2_with (go_at_call 8; refine (CT.out _ (gstep HG.out P5.out.bel)).mono ?_; rintro e w9 ⟨rfl, hb9⟩; have P9 := Lib.hid (P5.out.step hb9); clear P5 hb9 e0 e1 e2 e3 e4 e5 f0 f1 f2 f3 f4 f5 el; obtain ⟨e0, e1, e2, e3, e4, e5, f0, f1, f2, f3, f4, f5, el⟩ := ev_open P9.out.ev; obtain ⟨r0, r1, r2, r3, r4, r5, t0, t1, t2, t3, t4, t5, rl⟩ := ev_open (x0 := .int .i64 0) (x1 := .int .i64 0) (x2 := .int .i64 0) (x3 := .int .i64 0) (x4 := .string ⟨#[]⟩) (x5 := .string ⟨#[]⟩) (pz_res P9.out))
        exact bodyPost_ret (v := .tuple #[.agg #[(.int .i64 (1)), (.int .i64 (pvS z1.data.toList)), (.int .i64 (pvS z2.data.toList)), (.int .i64 (pvS z3.data.toList)), (.string z4), (.string ⟨#[]⟩)], .int .i64 0]) (res_cell Tryz.results10 rfl (ev_load (ev_put (pz_res P9.out))) rfl) rfl ⟨by rw [HQ.out], ev_bel P9.out.bel (Nat.le_refl _)⟩
      · rw [q1] at CT
        dsimp only at CT
        have HQ := Lib.hid q2
        clear q1 q2
        have d1 := ba_nl q3
        have d2 : (x.toList == s.toList) = false := by simpa using d1
        clear q3
        have E1 := ev_open P5.out.ev
        obtain ⟨e0, e1, e2, e3, e4, e5, f0, f1, f2, f3, f4, f5, el⟩ := E1
        go_wp2_with (go_at_call 8; refine (CT.out _ (gstep HG.out P5.out.bel)).mono ?_; rintro e w9 ⟨rfl, hb9⟩; have P9 := Lib.hid (P5.out.step hb9); clear P5 hb9 e0 e1 e2 e3 e4 e5 f0 f1 f2 f3 f4 f5 el; obtain ⟨e0, e1, e2, e3, e4, e5, f0, f1, f2, f3, f4, f5, el⟩ := ev_open P9.out.ev; obtain ⟨r0, r1, r2, r3, r4, r5, t0, t1, t2, t3, t4, t5, rl⟩ := ev_open (x0 := .int .i64 0) (x1 := .int .i64 0) (x2 := .int .i64 0) (x3 := .int .i64 0) (x4 := .string ⟨#[]⟩) (x5 := .string ⟨#[]⟩) (pz_res P9.out))
        exact bodyPost_ret (v := zV) (res_cell Tryz.results10 rfl (ev_load (ev_put (pz_res P9.out))) rfl) rfl ⟨by rw [HQ.out], ev_bel P9.out.bel (Nat.le_refl _)⟩
      · rw [q1] at CT
        dsimp only at CT
        have HQ := Lib.hid q2
        clear q1 q2
        have E1 := ev_open P5.out.ev
        obtain ⟨e0, e1, e2, e3, e4, e5, f0, f1, f2, f3, f4, f5, el⟩ := E1
        go_wp2_with (go_at_call 8; refine (CT.out _ (gstep HG.out P5.out.bel)).mono ?_; rintro e w9 ⟨rfl, hb9⟩; have P9 := Lib.hid (P5.out.step hb9); clear P5 hb9 e0 e1 e2 e3 e4 e5 f0 f1 f2 f3 f4 f5 el; obtain ⟨e0, e1, e2, e3, e4, e5, f0, f1, f2, f3, f4, f5, el⟩ := ev_open P9.out.ev; obtain ⟨r0, r1, r2, r3, r4, r5, t0, t1, t2, t3, t4, t5, rl⟩ := ev_open (x0 := .int .i64 0) (x1 := .int .i64 0) (x2 := .int .i64 0) (x3 := .int .i64 0) (x4 := .string ⟨#[]⟩) (x5 := .string ⟨#[]⟩) (pz_res P9.out))
        exact bodyPost_ret (v := zV) (res_cell Tryz.results10 rfl (ev_load (ev_put (pz_res P9.out))) rfl) rfl ⟨by rw [HQ.out], ev_bel P9.out.bel (Nat.le_refl _)⟩
  by_cases c2 : z0.data.toList = [117, 115, 101]
  · have b1 := z_ne (z := z0) (l := [109, 97, 100, 101]) c1
    have b2 := z_eq (z := z0) (l := [117, 115, 101]) c2
    have HKK : Hid (z0.data.toList = word 2) := c2
    clear c1 c2
    simp only [b1]
    go_upto_region 25 with (first | (go_at_call 26; refine (pz_num 3 P3.out HZ3.out HLn.out (by decide) HZs3.out (gstep HG.out P3.out.bel)).mono ?_; rintro e w8 ⟨rfl, hP8⟩; have P4 := Lib.hid hP8; clear hP8; obtain ⟨e0, e1, e2, e3, e4, e5, f0, f1, f2, f3, f4, f5, el⟩ := ev_open P4.out.ev; obtain ⟨l0, l1, l2⟩ := pz_lb P4.out) | (go_at_call 26; refine (pz_num 2 P2.out HZ2.out HLn.out (by decide) HZs2.out (gstep HG.out P2.out.bel)).mono ?_; rintro e w7 ⟨rfl, hP7⟩; have P3 := Lib.hid hP7; clear hP7; obtain ⟨e0, e1, e2, e3, e4, e5, f0, f1, f2, f3, f4, f5, el⟩ := ev_open P3.out.ev; obtain ⟨l0, l1, l2⟩ := pz_lb P3.out))
    have P5 := Lib.hid (((P4.out.set0 (.int .i64 (2))).set2 (.int .i64 (pvS z2.data.toList))).set3 (.int .i64 (pvS z3.data.toList)))
    generalize (((w8.setCell ⟨bx, 0, none⟩ (.int .i64 (2))).setCell ⟨bx, 2, none⟩ (.int .i64 (pvS z2.data.toList))).setCell ⟨bx, 3, none⟩ (.int .i64 (pvS z3.data.toList))) = W5 at *
    clear P2 l0 l1 l2 e0 e1 e2 e3 e4 e5 f0 f1 f2 f3 f4 f5 el P3 P4
    have HT := HPAR.out 2 (pvS z1.data.toList) (pvS z2.data.toList) (pvS z3.data.toList) ⟨#[]⟩ ⟨#[]⟩ (by simp [mkE, HKK.out, word])
    have CT := Lib.hid (fun W hG => PText_any 2 (pvS z1.data.toList) (pvS z2.data.toList) (pvS z3.data.toList) ⟨#[]⟩ ⟨#[]⟩ W hG (by decide) (by decide))
    clear HPAR HKK
    rcases HT with ⟨q1, q2⟩ | ⟨x, q1, q3, q2⟩ | ⟨q1, q2⟩
    · rw [q1] at CT
      dsimp only at CT
      have HQ := Lib.hid q2
      clear q1 q2
      have E1 := ev_open P5.out.ev
      obtain ⟨e0, e1, e2, e3, e4, e5, f0, f1, f2, f3, f4, f5, el⟩ := E1
      go_wp2_with (go_at_call 8; refine (CT.out _ (gstep HG.out P5.out.bel)).mono ?_; rintro e w9 ⟨rfl, hb9⟩; have P9 := Lib.hid (P5.out.step hb9); clear P5 hb9 e0 e1 e2 e3 e4 e5 f0 f1 f2 f3 f4 f5 el; obtain ⟨e0, e1, e2, e3, e4, e5, f0, f1, f2, f3, f4, f5, el⟩ := ev_open P9.out.ev; obtain ⟨r0, r1, r2, r3, r4, r5, t0, t1, t2, t3, t4, t5, rl⟩ := ev_open (x0 := .int .i64 0) (x1 := .int .i64 0) (x2 := .int .i64 0) (x3 := .int .i64 0) (x4 := .string ⟨#[]⟩) (x5 := .string ⟨#[]⟩) (pz_res P9.out))
      exact bodyPost_ret (v := .tuple #[.agg #[(.int .i64 (2)), (.int .i64 (pvS z1.data.toList)), (.int .i64 (pvS z2.data.toList)), (.int .i64 (pvS z3.data.toList)), (.string ⟨#[]⟩), (.string ⟨#[]⟩)], .int .i64 0]) (res_cell Tryz.results10 rfl (ev_load (ev_put (pz_res P9.out))) rfl) rfl ⟨by rw [HQ.out], ev_bel P9.out.bel (Nat.le_refl _)⟩
    · rw [q1] at CT
      dsimp only at CT
      have HQ := Lib.hid q2
      clear q1 q2
      have d1 := ba_nl q3
      have d2 : (x.toList == s.toList) = false := by simpa using d1
      clear q3
      have E1 := ev_open P5.out.ev
      obtain ⟨e0, e1, e2, e3, e4, e5, f0, f1, f2, f3, f4, f5, el⟩ := E1
      go_wp2_with (go_at_call 8; refine (CT.out _ (gstep HG.out P5.out.bel)).mono ?_; rintro e w9 ⟨rfl, hb9⟩; have P9 := Lib.hid (P5.out.step hb9); clear P5 hb9 e0 e1 e2 e3 e4 e5 f0 f1 f2 f3 f4 f5 el; obtain ⟨e0, e1, e2, e3, e4, e5, f0, f1, f2, f3, f4, f5, el⟩ := ev_open P9.out.ev; obtain ⟨r0, r1, r2, r3, r4, r5, t0, t1, t2, t3, t4, t5, rl⟩ := ev_open (x0 := .int .i64 0) (x1 := .int .i64 0) (x2 := .int .i64 0) (x3 := .int .i64 0) (x4 := .string ⟨#[]⟩) (x5 := .string ⟨#[]⟩) (pz_res P9.out))
      exact bodyPost_ret (v := zV) (res_cell Tryz.results10 rfl (ev_load (ev_put (pz_res P9.out))) rfl) rfl ⟨by rw [HQ.out], ev_bel P9.out.bel (Nat.le_refl _)⟩
    · rw [q1] at CT
      dsimp only at CT
      have HQ := Lib.hid q2
      clear q1 q2
      have E1 := ev_open P5.out.ev
      obtain ⟨e0, e1, e2, e3, e4, e5, f0, f1, f2, f3, f4, f5, el⟩ := E1
      go_wp2_with (go_at_call 8; refine (CT.out _ (gstep HG.out P5.out.bel)).mono ?_; rintro e w9 ⟨rfl, hb9⟩; have P9 := Lib.hid (P5.out.step hb9); clear P5 hb9 e0 e1 e2 e3 e4 e5 f0 f1 f2 f3 f4 f5 el; obtain ⟨e0, e1, e2, e3, e4, e5, f0, f1, f2, f3, f4, f5, el⟩ := ev_open P9.out.ev; obtain ⟨r0, r1, r2, r3, r4, r5, t0, t1, t2, t3, t4, t5, rl⟩ := ev_open (x0 := .int .i64 0) (x1 := .int .i64 0) (x2 := .int .i64 0) (x3 := .int .i64 0) (x4 := .string ⟨#[]⟩) (x5 := .string ⟨#[]⟩) (pz_res P9.out))
      exact bodyPost_ret (v := zV) (res_cell Tryz.results10 rfl (ev_load (ev_put (pz_res P9.out))) rfl) rfl ⟨by rw [HQ.out], ev_bel P9.out.bel (Nat.le_refl _)⟩
  by_cases c3 : z0.data.toList = [116, 101, 115, 116]
  · have b1 := z_ne (z := z0) (l := [109, 97, 100, 101]) c1
    have b2 := z_ne (z := z0) (l := [117, 115, 101]) c2
    have b3 := z_eq (z := z0) (l := [116, 101, 115, 116]) c3
    have HKK : Hid (z0.data.toList = word 3) := c3
    clear c1 c2 c3
    simp only [b1]
    go_upto_region 25 with (go_at_call 26; refine (pz_num 2 P2.out HZ2.out HLn.out (by decide) HZs2.out (gstep HG.out P2.out.bel)).mono ?_; rintro e w7 ⟨rfl, hP7⟩; have P3 := Lib.hid hP7; clear hP7; obtain ⟨e0, e1, e2, e3, e4, e5, f0, f1, f2, f3, f4, f5, el⟩ := ev_open P3.out.ev; obtain ⟨l0, l1, l2⟩ := pz_lb P3.out)
    have P5 := Lib.hid ((P3.out.set0 (.int .i64 (3))).set2 (.int .i64 (pvS z2.data.toList)))
    generalize ((w7.setCell ⟨bx, 0, none⟩ (.int .i64 (3))).setCell ⟨bx, 2, none⟩ (.int .i64 (pvS z2.data.toList))) = W5 at *
    clear P2 l0 l1 l2 e0 e1 e2 e3 e4 e5 f0 f1 f2 f3 f4 f5 el P3
    have HT := HPAR.out 3 (pvS z1.data.toList) (pvS z2.data.toList) (0) ⟨#[]⟩ ⟨#[]⟩ (by simp [mkE, HKK.out, word])
    have CT := Lib.hid (fun W hG => PText_any 3 (pvS z1.data.toList) (pvS z2.data.toList) (0) ⟨#[]⟩ ⟨#[]⟩ W hG (by decide) (by decide))
    clear HPAR HKK
    rcases HT with ⟨q1, q2⟩ | ⟨x, q1, q3, q2⟩ | ⟨q1, q2⟩
    · rw [q1] at CT
      dsimp only at CT
      have HQ := Lib.hid q2
      clear q1 q2
      have E1 := ev_open P5.out.ev
      obtain ⟨e0, e1, e2, e3, e4, e5, f0, f1, f2, f3, f4, f5, el⟩ := E1
      go_wp2_with (go_at_call 8; refine (CT.out _ (gstep HG.out P5.out.bel)).mono ?_; rintro e w9 ⟨rfl, hb9⟩; have P9 := Lib.hid (P5.out.step hb9); clear P5 hb9 e0 e1 e2 e3 e4 e5 f0 f1 f2 f3 f4 f5 el; obtain ⟨e0, e1, e2, e3, e4, e5, f0, f1, f2, f3, f4, f5, el⟩ := ev_open P9.out.ev; obtain ⟨r0, r1, r2, r3, r4, r5, t0, t1, t2, t3, t4, t5, rl⟩ := ev_open (x0 := .int .i64 0) (x1 := .int .i64 0) (x2 := .int .i64 0) (x3 := .int .i64 0) (x4 := .string ⟨#[]⟩) (x5 := .string ⟨#[]⟩) (pz_res P9.out))
      exact bodyPost_ret (v := .tuple #[.agg #[(.int .i64 (3)), (.int .i64 (pvS z1.data.toList)), (.int .i64 (pvS z2.data.toList)), (.int .i64 (0)), (.string ⟨#[]⟩), (.string ⟨#[]⟩)], .int .i64 0]) (res_cell Tryz.results10 rfl (ev_load (ev_put (pz_res P9.out))) rfl) rfl ⟨by rw [HQ.out], ev_bel P9.out.bel (Nat.le_refl _)⟩
    · rw [q1] at CT
      dsimp only at CT
      have HQ := Lib.hid q2
      clear q1 q2
      have d1 := ba_nl q3
      have d2 : (x.toList == s.toList) = false := by simpa using d1
      clear q3
      have E1 := ev_open P5.out.ev
      obtain ⟨e0, e1, e2, e3, e4, e5, f0, f1, f2, f3, f4, f5, el⟩ := E1
      go_wp2_with (go_at_call 8; refine (CT.out _ (gstep HG.out P5.out.bel)).mono ?_; rintro e w9 ⟨rfl, hb9⟩; have P9 := Lib.hid (P5.out.step hb9); clear P5 hb9 e0 e1 e2 e3 e4 e5 f0 f1 f2 f3 f4 f5 el; obtain ⟨e0, e1, e2, e3, e4, e5, f0, f1, f2, f3, f4, f5, el⟩ := ev_open P9.out.ev; obtain ⟨r0, r1, r2, r3, r4, r5, t0, t1, t2, t3, t4, t5, rl⟩ := ev_open (x0 := .int .i64 0) (x1 := .int .i64 0) (x2 := .int .i64 0) (x3 := .int .i64 0) (x4 := .string ⟨#[]⟩) (x5 := .string ⟨#[]⟩) (pz_res P9.out))
      exact bodyPost_ret (v := zV) (res_cell Tryz.results10 rfl (ev_load (ev_put (pz_res P9.out))) rfl) rfl ⟨by rw [HQ.out], ev_bel P9.out.bel (Nat.le_refl _)⟩
    · rw [q1] at CT
      dsimp only at CT
      have HQ := Lib.hid q2
      clear q1 q2
      have E1 := ev_open P5.out.ev
      obtain ⟨e0, e1, e2, e3, e4, e5, f0, f1, f2, f3, f4, f5, el⟩ := E1
      go_wp2_with (go_at_call 8; refine (CT.out _ (gstep HG.out P5.out.bel)).mono ?_; rintro e w9 ⟨rfl, hb9⟩; have P9 := Lib.hid (P5.out.step hb9); clear P5 hb9 e0 e1 e2 e3 e4 e5 f0 f1 f2 f3 f4 f5 el; obtain ⟨e0, e1, e2, e3, e4, e5, f0, f1, f2, f3, f4, f5, el⟩ := ev_open P9.out.ev; obtain ⟨r0, r1, r2, r3, r4, r5, t0, t1, t2, t3, t4, t5, rl⟩ := ev_open (x0 := .int .i64 0) (x1 := .int .i64 0) (x2 := .int .i64 0) (x3 := .int .i64 0) (x4 := .string ⟨#[]⟩) (x5 := .string ⟨#[]⟩) (pz_res P9.out))
      exact bodyPost_ret (v := zV) (res_cell Tryz.results10 rfl (ev_load (ev_put (pz_res P9.out))) rfl) rfl ⟨by rw [HQ.out], ev_bel P9.out.bel (Nat.le_refl _)⟩
  by_cases c4 : z0.data.toList = [102, 97, 117, 108, 116]
  · have b1 := z_ne (z := z0) (l := [109, 97, 100, 101]) c1
    have b2 := z_ne (z := z0) (l := [117, 115, 101]) c2
    have b3 := z_ne (z := z0) (l := [116, 101, 115, 116]) c3
    have b4 := z_eq (z := z0) (l := [102, 97, 117, 108, 116]) c4
    have HKK : Hid (z0.data.toList = word 4) := c4
    clear c1 c2 c3 c4
    simp only [b1]
    go_upto_region 25 with (go_at_call 26; refine (pz_num 2 P2.out HZ2.out HLn.out (by decide) HZs2.out (gstep HG.out P2.out.bel)).mono ?_; rintro e w7 ⟨rfl, hP7⟩; have P3 := Lib.hid hP7; clear hP7; obtain ⟨e0, e1, e2, e3, e4, e5, f0, f1, f2, f3, f4, f5, el⟩ := ev_open P3.out.ev; obtain ⟨l0, l1, l2⟩ := pz_lb P3.out)
    have P5 := Lib.hid ((P3.out.set0 (.int .i64 (4))).set2 (.int .i64 (pvS z2.data.toList)))
    generalize ((w7.setCell ⟨bx, 0, none⟩ (.int .i64 (4))).setCell ⟨bx, 2, none⟩ (.int .i64 (pvS z2.data.toList))) = W5 at *
    clear P2 l0 l1 l2 e0 e1 e2 e3 e4 e5 f0 f1 f2 f3 f4 f5 el P3
    have HT := HPAR.out 4 (pvS z1.data.toList) (pvS z2.data.toList) (0) ⟨#[]⟩ ⟨#[]⟩ (by simp [mkE, HKK.out, word])
    have CT := Lib.hid (fun W hG => PText_any 4 (pvS z1.data.toList) (pvS z2.data.toList) (0) ⟨#[]⟩ ⟨#[]⟩ W hG (by decide) (by decide))
    clear HPAR HKK
    rcases HT with ⟨q1, q2⟩ | ⟨x, q1, q3, q2⟩ | ⟨q1, q2⟩
    · rw [q1] at CT
      dsimp only at CT
      have HQ := Lib.hid q2
      clear q1 q2
      have E1 := ev_open P5.out.ev
      obtain ⟨e0, e1, e2, e3, e4, e5, f0, f1, f2, f3, f4, f5, el⟩ := E1
      go_wp2_with (go_at_call 8; refine (CT.out _ (gstep HG.out P5.out.bel)).mono ?_; rintro e w9 ⟨rfl, hb9⟩; have P9 := Lib.hid (P5.out.step hb9); clear P5 hb9 e0 e1 e2 e3 e4 e5 f0 f1 f2 f3 f4 f5 el; obtain ⟨e0, e1, e2, e3, e4, e5, f0, f1, f2, f3, f4, f5, el⟩ := ev_open P9.out.ev; obtain ⟨r0, r1, r2, r3, r4, r5, t0, t1, t2, t3, t4, t5, rl⟩ := ev_open (x0 := .int .i64 0) (x1 := .int .i64 0) (x2 := .int .i64 0) (x3 := .int .i64 0) (x4 := .string ⟨#[]⟩) (x5 := .string ⟨#[]⟩) (pz_res P9.out))
      exact bodyPost_ret (v := .tuple #[.agg #[(.int .i64 (4)), (.int .i64 (pvS z1.data.toList)), (.int .i64 (pvS z2.data.toList)), (.int .i64 (0)), (.string ⟨#[]⟩), (.string ⟨#[]⟩)], .int .i64 0]) (res_cell Tryz.results10 rfl (ev_load (ev_put (pz_res P9.out))) rfl) rfl ⟨by rw [HQ.out], ev_bel P9.out.bel (Nat.le_refl _)⟩
    · rw [q1] at CT
      dsimp only at CT
      have HQ := Lib.hid q2
      clear q1 q2
      have d1 := ba_nl q3
      have d2 : (x.toList == s.toList) = false := by simpa using d1
      clear q3
      have E1 := ev_open P5.out.ev
      obtain ⟨e0, e1, e2, e3, e4, e5, f0, f1, f2, f3, f4, f5, el⟩ := E1
      go_wp2_with (go_at_call 8; refine (CT.out _ (gstep HG.out P5.out.bel)).mono ?_; rintro e w9 ⟨rfl, hb9⟩; have P9 := Lib.hid (P5.out.step hb9); clear P5 hb9 e0 e1 e2 e3 e4 e5 f0 f1 f2 f3 f4 f5 el; obtain ⟨e0, e1, e2, e3, e4, e5, f0, f1, f2, f3, f4, f5, el⟩ := ev_open P9.out.ev; obtain ⟨r0, r1, r2, r3, r4, r5, t0, t1, t2, t3, t4, t5, rl⟩ := ev_open (x0 := .int .i64 0) (x1 := .int .i64 0) (x2 := .int .i64 0) (x3 := .int .i64 0) (x4 := .string ⟨#[]⟩) (x5 := .string ⟨#[]⟩) (pz_res P9.out))
      exact bodyPost_ret (v := zV) (res_cell Tryz.results10 rfl (ev_load (ev_put (pz_res P9.out))) rfl) rfl ⟨by rw [HQ.out], ev_bel P9.out.bel (Nat.le_refl _)⟩
    · rw [q1] at CT
      dsimp only at CT
      have HQ := Lib.hid q2
      clear q1 q2
      have E1 := ev_open P5.out.ev
      obtain ⟨e0, e1, e2, e3, e4, e5, f0, f1, f2, f3, f4, f5, el⟩ := E1
      go_wp2_with (go_at_call 8; refine (CT.out _ (gstep HG.out P5.out.bel)).mono ?_; rintro e w9 ⟨rfl, hb9⟩; have P9 := Lib.hid (P5.out.step hb9); clear P5 hb9 e0 e1 e2 e3 e4 e5 f0 f1 f2 f3 f4 f5 el; obtain ⟨e0, e1, e2, e3, e4, e5, f0, f1, f2, f3, f4, f5, el⟩ := ev_open P9.out.ev; obtain ⟨r0, r1, r2, r3, r4, r5, t0, t1, t2, t3, t4, t5, rl⟩ := ev_open (x0 := .int .i64 0) (x1 := .int .i64 0) (x2 := .int .i64 0) (x3 := .int .i64 0) (x4 := .string ⟨#[]⟩) (x5 := .string ⟨#[]⟩) (pz_res P9.out))
      exact bodyPost_ret (v := zV) (res_cell Tryz.results10 rfl (ev_load (ev_put (pz_res P9.out))) rfl) rfl ⟨by rw [HQ.out], ev_bel P9.out.bel (Nat.le_refl _)⟩
  by_cases c5 : z0.data.toList = [112, 117, 116]
  · have b1 := z_ne (z := z0) (l := [109, 97, 100, 101]) c1
    have b2 := z_ne (z := z0) (l := [117, 115, 101]) c2
    have b3 := z_ne (z := z0) (l := [116, 101, 115, 116]) c3
    have b4 := z_ne (z := z0) (l := [102, 97, 117, 108, 116]) c4
    have b5 := z_eq (z := z0) (l := [112, 117, 116]) c5
    have HKK : Hid (z0.data.toList = word 5) := c5
    clear c1 c2 c3 c4 c5
    simp only [b1]
    go_upto_region 16 with fail
    refine region_all 12 16 108 [(7, 108), (9, 109), (11, 110)] [(none, []), (none, []), (none, []), (none, []), (none, []), (none, []), (none, []), (some 0, []), (none, []), (some 1, []), (none, []), (some 2, [])] [(57, (.slice (some ⟨g, 0, none⟩) (ts.length + 5) c)), (58, (.pointer (some ⟨g, 2, none⟩))), (59, (.string z2)), (60, (.slice (some ⟨g, 0, none⟩) (ts.length + 5) c)), (61, (.pointer (some ⟨g, 3, none⟩))), (62, (.string z3)), (63, (.pointer (some ⟨bx, 0, none⟩))), (64, (.pointer (some ⟨bx, 4, none⟩))), (65, (.pointer (some ⟨bx, 5, none⟩)))] (fun bsE vsE W => PZ w (KP w g (ts.length + 5) c) g c bx (ts ++ em5) #[(bif (bsE.getD 0 false) then (.int .i64 (5)) else (.int .i64 (0))), (.int .i64 (pvS z1.data.toList)), (.int .i64 (0)), (.int .i64 (0)), (bif (bsE.getD 1 false) then (.string z2) else (.string ⟨#[]⟩)), (bif (bsE.getD 2 false) then (.string z3) else (.string ⟨#[]⟩))] W) (by kernel_rfl) (by kernel_rfl) rfl rfl (by kernel_rfl) (by rfl) ?h0 ?each ?done
    case h0 =>
      intro vsE hlv
      obtain ⟨v0, vsE0, rfl, hlv0⟩ := len_one hlv
      obtain ⟨v1, vsE1, rfl, hlv1⟩ := len_one hlv0
      obtain ⟨v2, vsE2, rfl, hlv2⟩ := len_one hlv1
      obtain rfl := len_nil hlv2
      exact P2.out.step (Below.refl _ _).drew
    case each =>
      simp only [AllE]
      refine ⟨?_, ?_, ?_, ?_, ?_, ?_, ?_, ?_, ?_, ?_, ?_, ?_, trivial⟩
      · refine ⟨57, (.slice (some ⟨g, 0, none⟩) (ts.length + 5) c), rfl, by kernel_rfl, ?_⟩
        intro bsE vsE W hlb hlv hnd h
        obtain ⟨b0, bsE0, rfl, hlb0⟩ := len_one hlb
        obtain ⟨v0, vsE0, rfl, hlv0⟩ := len_one hlv
        obtain ⟨b1, bsE1, rfl, hlb1⟩ := len_one hlb0
        obtain ⟨v1, vsE1, rfl, hlv1⟩ := len_one hlv0
        obtain ⟨b2, bsE2, rfl, hlb2⟩ := len_one hlb1
        obtain ⟨v2, vsE2, rfl, hlv2⟩ := len_one hlv1
        obtain rfl := len_nil hlb2
        obtain rfl := len_nil hlv2
        replace h : PZ w (KP w g (ts.length + 5) c) g c bx (ts ++ em5) #[(bif b0 then (.int .i64 (5)) else (.int .i64 (0))), (.int .i64 (pvS z1.data.toList)), (.int .i64 (0)), (.int .i64 (0)), (bif b1 then (.string z2) else (.string ⟨#[]⟩)), (bif b2 then (.string z3) else (.string ⟨#[]⟩))] W := h
        clear hnd
        have HST := Lib.hid h
        obtain ⟨e0, e1, e2, e3, e4, e5, f0, f1, f2, f3, f4, f5, el⟩ := ev_open h.ev; obtain ⟨l0, l1, l2⟩ := pz_lb h; have p2 := h.piece HZ2.out; have p3 := h.piece HZ3.out; have p4 := h.piece HZ4.out
        intro K Q hK
        simp only [putE, updAll, Act.put, List.setIfInBounds_toArray, List.set_cons_zero, List.set_cons_succ, List.set_nil] at hK ⊢
        go_wp2_with (fail)
        all_goals (first | exact hK _ (by first | exact h | exact h.step (by repeat' (first | exact Below.refl _ _ | apply bDrewN | apply bDrew))) | exact (by first | exact h | exact h.step (by repeat' (first | exact Below.refl _ _ | apply bDrewN | apply bDrew))))
      · refine ⟨58, (.pointer (some ⟨g, 2, none⟩)), rfl, by kernel_rfl, ?_⟩
        intro bsE vsE W hlb hlv hnd h
        obtain ⟨b0, bsE0, rfl, hlb0⟩ := len_one hlb
        obtain ⟨v0, vsE0, rfl, hlv0⟩ := len_one hlv
        obtain ⟨b1, bsE1, rfl, hlb1⟩ := len_one hlb0
        obtain ⟨v1, vsE1, rfl, hlv1⟩ := len_one hlv0
        obtain ⟨b2, bsE2, rfl, hlb2⟩ := len_one hlb1
        obtain ⟨v2, vsE2, rfl, hlv2⟩ := len_one hlv1
        obtain rfl := len_nil hlb2
        obtain rfl := len_nil hlv2
        replace h : PZ w (KP w g (ts.length + 5) c) g c bx (ts ++ em5) #[(bif b0 then (.int .i64 (5)) else (.int .i64 (0))), (.int .i64 (pvS z1.data.toList)), (.int .i64 (0)), (.int .i64 (0)), (bif b1 then (.string z2) else (.string ⟨#[]⟩)), (bif b2 then (.string z3) else (.string ⟨#[]⟩))] W := h
        clear hnd
        have HST := Lib.hid h
        obtain ⟨e0, e1, e2, e3, e4, e5, f0, f1, f2, f3, f4, f5, el⟩ := ev_open h.ev; obtain ⟨l0, l1, l2⟩ := pz_lb h; have p2 := h.piece HZ2.out; have p3 := h.piece HZ3.out; have p4 := h.piece HZ4.out
        intro K Q hK
        simp only [putE, updAll, Act.put, List.setIfInBounds_toArray, List.set_cons_zero, List.set_cons_succ, List.set_nil] at hK ⊢
        go_wp2_with (fail)
        all_goals (first | exact hK _ (by first | exact h | exact h.step (by repeat' (first | exact Below.refl _ _ | apply bDrewN | apply bDrew))) | exact (by first | exact h | exact h.step (by repeat' (first | exact Below.refl _ _ | apply bDrewN | apply bDrew))))
      · refine ⟨59, (.string z2), rfl, by kernel_rfl, ?_⟩
        intro bsE vsE W hlb hlv hnd h
        obtain ⟨b0, bsE0, rfl, hlb0⟩ := len_one hlb
        obtain ⟨v0, vsE0, rfl, hlv0⟩ := len_one hlv
        obtain ⟨b1, bsE1, rfl, hlb1⟩ := len_one hlb0
        obtain ⟨v1, vsE1, rfl, hlv1⟩ := len_one hlv0
        obtain ⟨b2, bsE2, rfl, hlb2⟩ := len_one hlb1
        obtain ⟨v2, vsE2, rfl, hlv2⟩ := len_one hlv1
        obtain rfl := len_nil hlb2
        obtain rfl := len_nil hlv2
        replace h : PZ w (KP w g (ts.length + 5) c) g c bx (ts ++ em5) #[(bif b0 then (.int .i64 (5)) else (.int .i64 (0))), (.int .i64 (pvS z1.data.toList)), (.int .i64 (0)), (.int .i64 (0)), (bif b1 then (.string z2) else (.string ⟨#[]⟩)), (bif b2 then (.string z3) else (.string ⟨#[]⟩))] W := h
        clear hnd
        have HST := Lib.hid h
        obtain ⟨e0, e1, e2, e3, e4, e5, f0, f1, f2, f3, f4, f5, el⟩ := ev_open h.ev; obtain ⟨l0, l1, l2⟩ := pz_lb h; have p2 := h.piece HZ2.out; have p3 := h.piece HZ3.out; have p4 := h.piece HZ4.out
        intro K Q hK
        simp only [putE, updAll, Act.put, List.setIfInBounds_toArray, List.set_cons_zero, List.set_cons_succ, List.set_nil] at hK ⊢
        go_wp2_with (fail)
        all_goals (first | exact hK _ (by first | exact h | exact h.step (by repeat' (first | exact Below.refl _ _ | apply bDrewN | apply bDrew))) | exact (by first | exact h | exact h.step (by repeat' (first | exact Below.refl _ _ | apply bDrewN | apply bDrew))))
      · refine ⟨60, (.slice (some ⟨g, 0, none⟩) (ts.length + 5) c), rfl, by kernel_rfl, ?_⟩
        intro bsE vsE W hlb hlv hnd h
        obtain ⟨b0, bsE0, rfl, hlb0⟩ := len_one hlb
        obtain ⟨v0, vsE0, rfl, hlv0⟩ := len_one hlv
        obtain ⟨b1, bsE1, rfl, hlb1⟩ := len_one hlb0
        obtain ⟨v1, vsE1, rfl, hlv1⟩ := len_one hlv0
        obtain ⟨b2, bsE2, rfl, hlb2⟩ := len_one hlb1
        obtain ⟨v2, vsE2, rfl, hlv2⟩ := len_one hlv1
        obtain rfl := len_nil hlb2
        obtain rfl := len_nil hlv2
        replace h : PZ w (KP w g (ts.length + 5) c) g c bx (ts ++ em5) #[(bif b0 then (.int .i64 (5)) else (.int .i64 (0))), (.int .i64 (pvS z1.data.toList)), (.int .i64 (0)), (.int .i64 (0)), (bif b1 then (.string z2) else (.string ⟨#[]⟩)), (bif b2 then (.string z3) else (.string ⟨#[]⟩))] W := h
        clear hnd
        have HST := Lib.hid h
        obtain ⟨e0, e1, e2, e3, e4, e5, f0, f1, f2, f3, f4, f5, el⟩ := ev_open h.ev; obtain ⟨l0, l1, l2⟩ := pz_lb h; have p2 := h.piece HZ2.out; have p3 := h.piece HZ3.out; have p4 := h.piece HZ4.out
        intro K Q hK
        simp only [putE, updAll, Act.put, List.setIfInBounds_toArray, List.set_cons_zero, List.set_cons_succ, List.set_nil] at hK ⊢
        go_wp2_with (fail)
        all_goals (first | exact hK _ (by first | exact h | exact h.step (by repeat' (first | exact Below.refl _ _ | apply bDrewN | apply bDrew))) | exact (by first | exact h | exact h.step (by repeat' (first | exact Below.refl _ _ | apply bDrewN | apply bDrew))))
      · refine ⟨61, (.pointer (some ⟨g, 3, none⟩)), rfl, by kernel_rfl, ?_⟩
        intro bsE vsE W hlb hlv hnd h
        obtain ⟨b0, bsE0, rfl, hlb0⟩ := len_one hlb
        obtain ⟨v0, vsE0, rfl, hlv0⟩ := len_one hlv
        obtain ⟨b1, bsE1, rfl, hlb1⟩ := len_one hlb0
        obtain ⟨v1, vsE1, rfl, hlv1⟩ := len_one hlv0
        obtain ⟨b2, bsE2, rfl, hlb2⟩ := len_one hlb1
        obtain ⟨v2, vsE2, rfl, hlv2⟩ := len_one hlv1
        obtain rfl := len_nil hlb2
        obtain rfl := len_nil hlv2
        replace h : PZ w (KP w g (ts.length + 5) c) g c bx (ts ++ em5) #[(bif b0 then (.int .i64 (5)) else (.int .i64 (0))), (.int .i64 (pvS z1.data.toList)), (.int .i64 (0)), (.int .i64 (0)), (bif b1 then (.string z2) else (.string ⟨#[]⟩)), (bif b2 then (.string z3) else (.string ⟨#[]⟩))] W := h
        clear hnd
        have HST := Lib.hid h
        obtain ⟨e0, e1, e2, e3, e4, e5, f0, f1, f2, f3, f4, f5, el⟩ := ev_open h.ev; obtain ⟨l0, l1, l2⟩ := pz_lb h; have p2 := h.piece HZ2.out; have p3 := h.piece HZ3.out; have p4 := h.piece HZ4.out
        intro K Q hK
        simp only [putE, updAll, Act.put, List.setIfInBounds_toArray, List.set_cons_zero, List.set_cons_succ, List.set_nil] at hK ⊢
        go_wp2_with (fail)
        all_goals (first | exact hK _ (by first | exact h | exact h.step (by repeat' (first | exact Below.refl _ _ | apply bDrewN | apply bDrew))) | exact (by first | exact h | exact h.step (by repeat' (first | exact Below.refl _ _ | apply bDrewN | apply bDrew))))
      · refine ⟨62, (.string z3), rfl, by kernel_rfl, ?_⟩
        intro bsE vsE W hlb hlv hnd h
        obtain ⟨b0, bsE0, rfl, hlb0⟩ := len_one hlb
        obtain ⟨v0, vsE0, rfl, hlv0⟩ := len_one hlv
        obtain ⟨b1, bsE1, rfl, hlb1⟩ := len_one hlb0
        obtain ⟨v1, vsE1, rfl, hlv1⟩ := len_one hlv0
        obtain ⟨b2, bsE2, rfl, hlb2⟩ := len_one hlb1
        obtain ⟨v2, vsE2, rfl, hlv2⟩ := len_one hlv1
        obtain rfl := len_nil hlb2
        obtain rfl := len_nil hlv2
        replace h : PZ w (KP w g (ts.length + 5) c) g c bx (ts ++ em5) #[(bif b0 then (.int .i64 (5)) else (.int .i64 (0))), (.int .i64 (pvS z1.data.toList)), (.int .i64 (0)), (.int .i64 (0)), (bif b1 then (.string z2) else (.string ⟨#[]⟩)), (bif b2 then (.string z3) else (.string ⟨#[]⟩))] W := h
        clear hnd
        have HST := Lib.hid h
        obtain ⟨e0, e1, e2, e3, e4, e5, f0, f1, f2, f3, f4, f5, el⟩ := ev_open h.ev; obtain ⟨l0, l1, l2⟩ := pz_lb h; have p2 := h.piece HZ2.out; have p3 := h.piece HZ3.out; have p4 := h.piece HZ4.out
        intro K Q hK
        simp only [putE, updAll, Act.put, List.setIfInBounds_toArray, List.set_cons_zero, List.set_cons_succ, List.set_nil] at hK ⊢
        go_wp2_with (fail)
        all_goals (first | exact hK _ (by first | exact h | exact h.step (by repeat' (first | exact Below.refl _ _ | apply bDrewN | apply bDrew))) | exact (by first | exact h | exact h.step (by repeat' (first | exact Below.refl _ _ | apply bDrewN | apply bDrew))))
      · refine ⟨63, (.pointer (some ⟨bx, 0, none⟩)), rfl, by kernel_rfl, ?_⟩
        intro bsE vsE W hlb hlv hnd h
        obtain ⟨b0, bsE0, rfl, hlb0⟩ := len_one hlb
        obtain ⟨v0, vsE0, rfl, hlv0⟩ := len_one hlv
        obtain ⟨b1, bsE1, rfl, hlb1⟩ := len_one hlb0
        obtain ⟨v1, vsE1, rfl, hlv1⟩ := len_one hlv0
        obtain ⟨b2, bsE2, rfl, hlb2⟩ := len_one hlb1
        obtain ⟨v2, vsE2, rfl, hlv2⟩ := len_one hlv1
        obtain rfl := len_nil hlb2
        obtain rfl := len_nil hlv2
        replace h : PZ w (KP w g (ts.length + 5) c) g c bx (ts ++ em5) #[(bif b0 then (.int .i64 (5)) else (.int .i64 (0))), (.int .i64 (pvS z1.data.toList)), (.int .i64 (0)), (.int .i64 (0)), (bif b1 then (.string z2) else (.string ⟨#[]⟩)), (bif b2 then (.string z3) else (.string ⟨#[]⟩))] W := h
        clear hnd
        have HST := Lib.hid h
        obtain ⟨e0, e1, e2, e3, e4, e5, f0, f1, f2, f3, f4, f5, el⟩ := ev_open h.ev; obtain ⟨l0, l1, l2⟩ := pz_lb h; have p2 := h.piece HZ2.out; have p3 := h.piece HZ3.out; have p4 := h.piece HZ4.out
        intro K Q hK
        simp only [putE, updAll, Act.put, List.setIfInBounds_toArray, List.set_cons_zero, List.set_cons_succ, List.set_nil] at hK ⊢
        go_wp2_with (fail)
        all_goals (first | exact hK _ (by first | exact h | exact h.step (by repeat' (first | exact Below.refl _ _ | apply bDrewN | apply bDrew))) | exact (by first | exact h | exact h.step (by repeat' (first | exact Below.refl _ _ | apply bDrewN | apply bDrew))))
      · refine Or.inr ⟨rfl, ?_⟩
        intro bsE vsE W hlb hlv hnd hbk h
        obtain ⟨b0, bsE0, rfl, hlb0⟩ := len_one hlb
        obtain ⟨v0, vsE0, rfl, hlv0⟩ := len_one hlv
        obtain ⟨b1, bsE1, rfl, hlb1⟩ := len_one hlb0
        obtain ⟨v1, vsE1, rfl, hlv1⟩ := len_one hlv0
        obtain ⟨b2, bsE2, rfl, hlb2⟩ := len_one hlb1
        obtain ⟨v2, vsE2, rfl, hlv2⟩ := len_one hlv1
        obtain rfl := len_nil hlb2
        obtain rfl := len_nil hlv2
        obtain rfl : b0 = false := hbk
        replace h : PZ w (KP w g (ts.length + 5) c) g c bx (ts ++ em5) #[(bif false then (.int .i64 (5)) else (.int .i64 (0))), (.int .i64 (pvS z1.data.toList)), (.int .i64 (0)), (.int .i64 (0)), (bif b1 then (.string z2) else (.string ⟨#[]⟩)), (bif b2 then (.string z3) else (.string ⟨#[]⟩))] W := h
        clear hnd
        have HST := Lib.hid h
        obtain ⟨e0, e1, e2, e3, e4, e5, f0, f1, f2, f3, f4, f5, el⟩ := ev_open h.ev; obtain ⟨l0, l1, l2⟩ := pz_lb h; have p2 := h.piece HZ2.out; have p3 := h.piece HZ3.out; have p4 := h.piece HZ4.out
        intro K Q hK
        simp only [putE, updAll, Act.put, List.setIfInBounds_toArray, List.set_cons_zero, List.set_cons_succ, List.set_nil] at hK ⊢
        go_wp2_with fail
        all_goals (first | exact hK _ (h.set0 _) | exact h.set0 _)
      · refine ⟨64, (.pointer (some ⟨bx, 4, none⟩)), rfl, by kernel_rfl, ?_⟩
        intro bsE vsE W hlb hlv hnd h
        obtain ⟨b0, bsE0, rfl, hlb0⟩ := len_one hlb
        obtain ⟨v0, vsE0, rfl, hlv0⟩ := len_one hlv
        obtain ⟨b1, bsE1, rfl, hlb1⟩ := len_one hlb0
        obtain ⟨v1, vsE1, rfl, hlv1⟩ := len_one hlv0
        obtain ⟨b2, bsE2, rfl, hlb2⟩ := len_one hlb1
        obtain ⟨v2, vsE2, rfl, hlv2⟩ := len_one hlv1
        obtain rfl := len_nil hlb2
        obtain rfl := len_nil hlv2
        replace h : PZ w (KP w g (ts.length + 5) c) g c bx (ts ++ em5) #[(bif b0 then (.int .i64 (5)) else (.int .i64 (0))), (.int .i64 (pvS z1.data.toList)), (.int .i64 (0)), (.int .i64 (0)), (bif b1 then (.string z2) else (.string ⟨#[]⟩)), (bif b2 then (.string z3) else (.string ⟨#[]⟩))] W := h
        clear hnd
        have HST := Lib.hid h
        obtain ⟨e0, e1, e2, e3, e4, e5, f0, f1, f2, f3, f4, f5, el⟩ := ev_open h.ev; obtain ⟨l0, l1, l2⟩ := pz_lb h; have p2 := h.piece HZ2.out; have p3 := h.piece HZ3.out; have p4 := h.piece HZ4.out
        intro K Q hK
        simp only [putE, updAll, Act.put, List.setIfInBounds_toArray, List.set_cons_zero, List.set_cons_succ, List.set_nil] at hK ⊢
        go_wp2_with (fail)
        all_goals (first | exact hK _ (by first | exact h | exact h.step (by repeat' (first | exact Below.refl _ _ | apply bDrewN | apply bDrew))) | exact (by first | exact h | exact h.step (by repeat' (first | exact Below.refl _ _ | apply bDrewN | apply bDrew))))
      · refine Or.inr ⟨rfl, ?_⟩
        intro bsE vsE W hlb hlv hnd hbk h
        obtain ⟨b0, bsE0, rfl, hlb0⟩ := len_one hlb
        obtain ⟨v0, vsE0, rfl, hlv0⟩ := len_one hlv
        obtain ⟨b1, bsE1, rfl, hlb1⟩ := len_one hlb0
        obtain ⟨v1, vsE1, rfl, hlv1⟩ := len_one hlv0
        obtain ⟨b2, bsE2, rfl, hlb2⟩ := len_one hlb1
        obtain ⟨v2, vsE2, rfl, hlv2⟩ := len_one hlv1
        obtain rfl := len_nil hlb2
        obtain rfl := len_nil hlv2
        obtain rfl : b1 = false := hbk
        replace h : PZ w (KP w g (ts.length + 5) c) g c bx (ts ++ em5) #[(bif b0 then (.int .i64 (5)) else (.int .i64 (0))), (.int .i64 (pvS z1.data.toList)), (.int .i64 (0)), (.int .i64 (0)), (bif false then (.string z2) else (.string ⟨#[]⟩)), (bif b2 then (.string z3) else (.string ⟨#[]⟩))] W := h
        clear hnd
        have HST := Lib.hid h
        obtain ⟨e0, e1, e2, e3, e4, e5, f0, f1, f2, f3, f4, f5, el⟩ := ev_open h.ev; obtain ⟨l0, l1, l2⟩ := pz_lb h; have p2 := h.piece HZ2.out; have p3 := h.piece HZ3.out; have p4 := h.piece HZ4.out
        intro K Q hK
        simp only [putE, updAll, Act.put, List.setIfInBounds_toArray, List.set_cons_zero, List.set_cons_succ, List.set_nil] at hK ⊢
        go_wp2_with fail
        all_goals (first | exact hK _ (h.set4 _) | exact h.set4 _)
      · refine ⟨65, (.pointer (some ⟨bx, 5, none⟩)), rfl, by kernel_rfl, ?_⟩
        intro bsE vsE W hlb hlv hnd h
        obtain ⟨b0, bsE0, rfl, hlb0⟩ := len_one hlb
        obtain ⟨v0, vsE0, rfl, hlv0⟩ := len_one hlv
        obtain ⟨b1, bsE1, rfl, hlb1⟩ := len_one hlb0
        obtain ⟨v1, vsE1, rfl, hlv1⟩ := len_one hlv0
        obtain ⟨b2, bsE2, rfl, hlb2⟩ := len_one hlb1
        obtain ⟨v2, vsE2, rfl, hlv2⟩ := len_one hlv1
        obtain rfl := len_nil hlb2
        obtain rfl := len_nil hlv2
        replace h : PZ w (KP w g (ts.length + 5) c) g c bx (ts ++ em5) #[(bif b0 then (.int .i64 (5)) else (.int .i64 (0))), (.int .i64 (pvS z1.data.toList)), (.int .i64 (0)), (.int .i64 (0)), (bif b1 then (.string z2) else (.string ⟨#[]⟩)), (bif b2 then (.string z3) else (.string ⟨#[]⟩))] W := h
        clear hnd
        have HST := Lib.hid h
        obtain ⟨e0, e1, e2, e3, e4, e5, f0, f1, f2, f3, f4, f5, el⟩ := ev_open h.ev; obtain ⟨l0, l1, l2⟩ := pz_lb h; have p2 := h.piece HZ2.out; have p3 := h.piece HZ3.out; have p4 := h.piece HZ4.out
        intro K Q hK
        simp only [putE, updAll, Act.put, List.setIfInBounds_toArray, List.set_cons_zero, List.set_cons_succ, List.set_nil] at hK ⊢
        go_wp2_with (fail)
        all_goals (first | exact hK _ (by first | exact h | exact h.step (by repeat' (first | exact Below.refl _ _ | apply bDrewN | apply bDrew))) | exact (by first | exact h | exact h.step (by repeat' (first | exact Below.refl _ _ | apply bDrewN | apply bDrew))))
      · refine Or.inr ⟨rfl, ?_⟩
        intro bsE vsE W hlb hlv hnd hbk h
        obtain ⟨b0, bsE0, rfl, hlb0⟩ := len_one hlb
        obtain ⟨v0, vsE0, rfl, hlv0⟩ := len_one hlv
        obtain ⟨b1, bsE1, rfl, hlb1⟩ := len_one hlb0
        obtain ⟨v1, vsE1, rfl, hlv1⟩ := len_one hlv0
        obtain ⟨b2, bsE2, rfl, hlb2⟩ := len_one hlb1
        obtain ⟨v2, vsE2, rfl, hlv2⟩ := len_one hlv1
        obtain rfl := len_nil hlb2
        obtain rfl := len_nil hlv2
        obtain rfl : b2 = false := hbk
        replace h : PZ w (KP w g (ts.length + 5) c) g c bx (ts ++ em5) #[(bif b0 then (.int .i64 (5)) else (.int .i64 (0))), (.int .i64 (pvS z1.data.toList)), (.int .i64 (0)), (.int .i64 (0)), (bif b1 then (.string z2) else (.string ⟨#[]⟩)), (bif false then (.string z3) else (.string ⟨#[]⟩))] W := h
        clear hnd
        have HST := Lib.hid h
        obtain ⟨e0, e1, e2, e3, e4, e5, f0, f1, f2, f3, f4, f5, el⟩ := ev_open h.ev; obtain ⟨l0, l1, l2⟩ := pz_lb h; have p2 := h.piece HZ2.out; have p3 := h.piece HZ3.out; have p4 := h.piece HZ4.out
        intro K Q hK
        simp only [putE, updAll, Act.put, List.setIfInBounds_toArray, List.set_cons_zero, List.set_cons_succ, List.set_nil] at hK ⊢
        go_wp2_with fail
        all_goals (first | exact hK _ (h.set5 _) | exact h.set5 _)
    case done =>
      intro vsE W hlv h
      obtain ⟨v0, vsE0, rfl, hlv0⟩ := len_one hlv
      obtain ⟨v1, vsE1, rfl, hlv1⟩ := len_one hlv0
      obtain ⟨v2, vsE2, rfl, hlv2⟩ := len_one hlv1
      obtain rfl := len_nil hlv2
      replace h : PZ w (KP w g (ts.length + 5) c) g c bx (ts ++ em5) #[(bif true then (.int .i64 (5)) else (.int .i64 (0))), (.int .i64 (pvS z1.data.toList)), (.int .i64 (0)), (.int .i64 (0)), (bif true then (.string z2) else (.string ⟨#[]⟩)), (bif true then (.string z3) else (.string ⟨#[]⟩))] W := h
      have HST := Lib.hid h
      have P5 : Hid (PZ w (KP w g (ts.length + 5) c) g c bx (ts ++ em5) #[(.int .i64 (5)), (.int .i64 (pvS z1.data.toList)), (.int .i64 (0)), (.int .i64 (0)), (.string z2), (.string z3)] W) := h
      clear h HST P2 l0 l1 l2 e0 e1 e2 e3 e4 e5 f0 f1 f2 f3 f4 f5 el
      simp only [putE, updAll, Act.put, List.setIfInBounds_toArray, List.set_cons_zero, List.set_cons_succ, List.set_nil]
      go_upto_region 25 with fail
      have HT := HPAR.out 5 (pvS z1.data.toList) (0) (0) z2 z3 (by simp [mkE, HKK.out, word])
      have CT := Lib.hid (fun W hG => PText_any 5 (pvS z1.data.toList) (0) (0) z2 z3 W hG HZs2.out HZs3.out)
      clear HPAR HKK
      rcases HT with ⟨q1, q2⟩ | ⟨x, q1, q3, q2⟩ | ⟨q1, q2⟩
      · rw [q1] at CT
        dsimp only at CT
        have HQ := Lib.hid q2
        clear q1 q2
        have E1 := ev_open P5.out.ev
        obtain ⟨e0, e1, e2, e3, e4, e5, f0, f1, f2, f3, f4, f5, el⟩ := E1
        go_wp2_with (go_at_call 8; refine (CT.out _ (gstep HG.out P5.out.bel)).mono ?_; rintro e w9 ⟨rfl, hb9⟩; have P9 := Lib.hid (P5.out.step hb9); clear P5 hb9 e0 e1 e2 e3 e4 e5 f0 f1 f2 f3 f4 f5 el; obtain ⟨e0, e1, e2, e3, e4, e5, f0, f1, f2, f3, f4, f5, el⟩ := ev_open P9.out.ev; obtain ⟨r0, r1, r2, r3, r4, r5, t0, t1, t2, t3, t4, t5, rl⟩ := ev_open (x0 := .int .i64 0) (x1 := .int .i64 0) (x2 := .int .i64 0) (x3 := .int .i64 0) (x4 := .string ⟨#[]⟩) (x5 := .string ⟨#[]⟩) (pz_res P9.out))
        exact bodyPost_ret (v := .tuple #[.agg #[(.int .i64 (5)), (.int .i64 (pvS z1.data.toList)), (.int .i64 (0)), (.int .i64 (0)), (.string z2), (.string z3)], .int .i64 0]) (res_cell Tryz.results10 rfl (ev_load (ev_put (pz_res P9.out))) rfl) rfl ⟨by rw [HQ.out], ev_bel P9.out.bel (Nat.le_refl _)⟩
      · rw [q1] at CT
        dsimp only at CT
        have HQ := Lib.hid q2
        clear q1 q2
        have d1 := ba_nl q3
        have d2 : (x.toList == s.toList) = false := by simpa using d1
        clear q3
        have E1 := ev_open P5.out.ev
        obtain ⟨e0, e1, e2, e3, e4, e5, f0, f1, f2, f3, f4, f5, el⟩ := E1
        go_wp2_with (go_at_call 8; refine (CT.out _ (gstep HG.out P5.out.bel)).mono ?_; rintro e w9 ⟨rfl, hb9⟩; have P9 := Lib.hid (P5.out.step hb9); clear P5 hb9 e0 e1 e2 e3 e4 e5 f0 f1 f2 f3 f4 f5 el; obtain ⟨e0, e1, e2, e3, e4, e5, f0, f1, f2, f3, f4, f5, el⟩ := ev_open P9.out.ev; obtain ⟨r0, r1, r2, r3, r4, r5, t0, t1, t2, t3, t4, t5, rl⟩ := ev_open (x0 := .int .i64 0) (x1 := .int .i64 0) (x2 := .int .i64 0) (x3 := .int .i64 0) (x4 := .string ⟨#[]⟩) (x5 := .string ⟨#[]⟩) (pz_res P9.out))
        exact bodyPost_ret (v := zV) (res_cell Tryz.results10 rfl (ev_load (ev_put (pz_res P9.out))) rfl) rfl ⟨by rw [HQ.out], ev_bel P9.out.bel (Nat.le_refl _)⟩
      · rw [q1] at CT
        dsimp only at CT
        have HQ := Lib.hid q2
        clear q1 q2
        have E1 := ev_open P5.out.ev
        obtain ⟨e0, e1, e2, e3, e4, e5, f0, f1, f2, f3, f4, f5, el⟩ := E1
        go_wp2_with (go_at_call 8; refine (CT.out _ (gstep HG.out P5.out.bel)).mono ?_; rintro e w9 ⟨rfl, hb9⟩; have P9 := Lib.hid (P5.out.step hb9); clear P5 hb9 e0 e1 e2 e3 e4 e5 f0 f1 f2 f3 f4 f5 el; obtain ⟨e0, e1, e2, e3, e4, e5, f0, f1, f2, f3, f4, f5, el⟩ := ev_open P9.out.ev; obtain ⟨r0, r1, r2, r3, r4, r5, t0, t1, t2, t3, t4, t5, rl⟩ := ev_open (x0 := .int .i64 0) (x1 := .int .i64 0) (x2 := .int .i64 0) (x3 := .int .i64 0) (x4 := .string ⟨#[]⟩) (x5 := .string ⟨#[]⟩) (pz_res P9.out))
        exact bodyPost_ret (v := zV) (res_cell Tryz.results10 rfl (ev_load (ev_put (pz_res P9.out))) rfl) rfl ⟨by rw [HQ.out], ev_bel P9.out.bel (Nat.le_refl _)⟩
  by_cases c6 : z0.data.toList = [116, 97, 107, 101]
  · have b1 := z_ne (z := z0) (l := [109, 97, 100, 101]) c1
    have b2 := z_ne (z := z0) (l := [117, 115, 101]) c2
    have b3 := z_ne (z := z0) (l := [116, 101, 115, 116]) c3
    have b4 := z_ne (z := z0) (l := [102, 97, 117, 108, 116]) c4
    have b5 := z_ne (z := z0) (l := [112, 117, 116]) c5
    have b6 := z_eq (z := z0) (l := [116, 97, 107, 101]) c6
    have HKK : Hid (z0.data.toList = word 6) := c6
    clear c1 c2 c3 c4 c5 c6
    simp only [b1]
    go_upto_region 18 with fail
    refine region_all 12 16 108 [(7, 108), (9, 109), (11, 110)] [(none, []), (none, []), (none, []), (none, []), (none, []), (none, []), (none, []), (some 0, []), (none, []), (some 1, []), (none, []), (some 2, [])] [(68, (.slice (some ⟨g, 0, none⟩) (ts.length + 5) c)), (69, (.pointer (some ⟨g, 2, none⟩))), (70, (.string z2)), (71, (.slice (some ⟨g, 0, none⟩) (ts.length + 5) c)), (72, (.pointer (some ⟨g, 3, none⟩))), (73, (.string z3)), (74, (.pointer (some ⟨bx, 0, none⟩))), (75, (.pointer (some ⟨bx, 4, none⟩))), (76, (.pointer (some ⟨bx, 5, none⟩)))] (fun bsE vsE W => PZ w (KP w g (ts.length + 5) c) g c bx (ts ++ em5) #[(bif (bsE.getD 0 false) then (.int .i64 (6)) else (.int .i64 (0))), (.int .i64 (pvS z1.data.toList)), (.int .i64 (0)), (.int .i64 (0)), (bif (bsE.getD 1 false) then (.string z2) else (.string ⟨#[]⟩)), (bif (bsE.getD 2 false) then (.string z3) else (.string ⟨#[]⟩))] W) (by kernel_rfl) (by kernel_rfl) rfl rfl (by kernel_rfl) (by rfl) ?h0 ?each ?done
    case h0 =>
      intro vsE hlv
      obtain ⟨v0, vsE0, rfl, hlv0⟩ := len_one hlv
      obtain ⟨v1, vsE1, rfl, hlv1⟩ := len_one hlv0
      obtain ⟨v2, vsE2, rfl, hlv2⟩ := len_one hlv1
      obtain rfl := len_nil hlv2
      exact P2.out.step (Below.refl _ _).drew
    case each =>
      simp only [AllE]
      refine ⟨?_, ?_, ?_, ?_, ?_, ?_, ?_, ?_, ?_, ?_, ?_, ?_, trivial⟩
      · refine ⟨68, (.slice (some ⟨g, 0, none⟩) (ts.length + 5) c), rfl, by kernel_rfl, ?_⟩
        intro bsE vsE W hlb hlv hnd h
        obtain ⟨b0, bsE0, rfl, hlb0⟩ := len_one hlb
        obtain ⟨v0, vsE0, rfl, hlv0⟩ := len_one hlv
        obtain ⟨b1, bsE1, rfl, hlb1⟩ := len_one hlb0
        obtain ⟨v1, vsE1, rfl, hlv1⟩ := len_one hlv0
        obtain ⟨b2, bsE2, rfl, hlb2⟩ := len_one hlb1
        obtain ⟨v2, vsE2, rfl, hlv2⟩ := len_one hlv1
        obtain rfl := len_nil hlb2
        obtain rfl := len_nil hlv2
        replace h : PZ w (KP w g (ts.length + 5) c) g c bx (ts ++ em5) #[(bif b0 then (.int .i64 (6)) else (.int .i64 (0))), (.int .i64 (pvS z1.data.toList)), (.int .i64 (0)), (.int .i64 (0)), (bif b1 then (.string z2) else (.string ⟨#[]⟩)), (bif b2 then (.string z3) else (.string ⟨#[]⟩))] W := h
        clear hnd
        have HST := Lib.hid h
        obtain ⟨e0, e1, e2, e3, e4, e5, f0, f1, f2, f3, f4, f5, el⟩ := ev_open h.ev; obtain ⟨l0, l1, l2⟩ := pz_lb h; have p2 := h.piece HZ2.out; have p3 := h.piece HZ3.out; have p4 := h.piece HZ4.out
        intro K Q hK
        simp only [putE, updAll, Act.put, List.setIfInBounds_toArray, List.set_cons_zero, List.set_cons_succ, List.set_nil] at hK ⊢
        go_wp2_with (fail)
        all_goals (first | exact hK _ (by first | exact h | exact h.step (by repeat' (first | exact Below.refl _ _ | apply bDrewN | apply bDrew))) | exact (by first | exact h | exact h.step (by repeat' (first | exact Below.refl _ _ | apply bDrewN | apply bDrew))))
      · refine ⟨69, (.pointer (some ⟨g, 2, none⟩)), rfl, by kernel_rfl, ?_⟩
        intro bsE vsE W hlb hlv hnd h
        obtain ⟨b0, bsE0, rfl, hlb0⟩ := len_one hlb
        obtain ⟨v0, vsE0, rfl, hlv0⟩ := len_one hlv
        obtain ⟨b1, bsE1, rfl, hlb1⟩ := len_one hlb0
        obtain ⟨v1, vsE1, rfl, hlv1⟩ := len_one hlv0
        obtain ⟨b2, bsE2, rfl, hlb2⟩ := len_one hlb1
        obtain ⟨v2, vsE2, rfl, hlv2⟩ := len_one hlv1
        obtain rfl := len_nil hlb2
        obtain rfl := len_nil hlv2
        replace h : PZ w (KP w g (ts.length + 5) c) g c bx (ts ++ em5) #[(bif b0 then (.int .i64 (6)) else (.int .i64 (0))), (.int .i64 (pvS z1.data.toList)), (.int .i64 (0)), (.int .i64 (0)), (bif b1 then (.string z2) else (.string ⟨#[]⟩)), (bif b2 then (.string z3) else (.string ⟨#[]⟩))] W := h
        clear hnd
        have HST := Lib.hid h
        obtain ⟨e0, e1, e2, e3, e4, e5, f0, f1, f2, f3, f4, f5, el⟩ := ev_open h.ev; obtain ⟨l0, l1, l2⟩ := pz_lb h; have p2 := h.piece HZ2.out; have p3 := h.piece HZ3.out; have p4 := h.piece HZ4.out
        intro K Q hK
        simp only [putE, updAll, Act.put, List.setIfInBounds_toArray, List.set_cons_zero, List.set_cons_succ, List.set_nil] at hK ⊢
        go_wp2_with (fail)
        all_goals (first | exact hK _ (by first | exact h | exact h.step (by repeat' (first | exact Below.refl _ _ | apply bDrewN | apply bDrew))) | exact (by first | exact h | exact h.step (by repeat' (first | exact Below.refl _ _ | apply bDrewN | apply bDrew))))
      · refine ⟨70, (.string z2), rfl, by kernel_rfl, ?_⟩
        intro bsE vsE W hlb hlv hnd h
        obtain ⟨b0, bsE0, rfl, hlb0⟩ := len_one hlb
        obtain ⟨v0, vsE0, rfl, hlv0⟩ := len_one hlv
        obtain ⟨b1, bsE1, rfl, hlb1⟩ := len_one hlb0
        obtain ⟨v1, vsE1, rfl, hlv1⟩ := len_one hlv0
        obtain ⟨b2, bsE2, rfl, hlb2⟩ := len_one hlb1
        obtain ⟨v2, vsE2, rfl, hlv2⟩ := len_one hlv1
        obtain rfl := len_nil hlb2
        obtain rfl := len_nil hlv2
        replace h : PZ w (KP w g (ts.length + 5) c) g c bx (ts ++ em5) #[(bif b0 then (.int .i64 (6)) else (.int .i64 (0))), (.int .i64 (pvS z1.data.toList)), (.int .i64 (0)), (.int .i64 (0)), (bif b1 then (.string z2) else (.string ⟨#[]⟩)), (bif b2 then (.string z3) else (.string ⟨#[]⟩))] W := h
        clear hnd
        have HST := Lib.hid h
        obtain ⟨e0, e1, e2, e3, e4, e5, f0, f1, f2, f3, f4, f5, el⟩ := ev_open h.ev; obtain ⟨l0, l1, l2⟩ := pz_lb h; have p2 := h.piece HZ2.out; have p3 := h.piece HZ3.out; have p4 := h.piece HZ4.out
        intro K Q hK
        simp only [putE, updAll, Act.put, List.setIfInBounds_toArray, List.set_cons_zero, List.set_cons_succ, List.set_nil] at hK ⊢
        go_wp2_with (fail)
        all_goals (first | exact hK _ (by first | exact h | exact h.step (by repeat' (first | exact Below.refl _ _ | apply bDrewN | apply bDrew))) | exact (by first | exact h | exact h.step (by repeat' (first | exact Below.refl _ _ | apply bDrewN | apply bDrew))))
      · refine ⟨71, (.slice (some ⟨g, 0, none⟩) (ts.length + 5) c), rfl, by kernel_rfl, ?_⟩
        intro bsE vsE W hlb hlv hnd h
        obtain ⟨b0, bsE0, rfl, hlb0⟩ := len_one hlb
        obtain ⟨v0, vsE0, rfl, hlv0⟩ := len_one hlv
        obtain ⟨b1, bsE1, rfl, hlb1⟩ := len_one hlb0
        obtain ⟨v1, vsE1, rfl, hlv1⟩ := len_one hlv0
        obtain ⟨b2, bsE2, rfl, hlb2⟩ := len_one hlb1
        obtain ⟨v2, vsE2, rfl, hlv2⟩ := len_one hlv1
        obtain rfl := len_nil hlb2
        obtain rfl := len_nil hlv2
        replace h : PZ w (KP w g (ts.length + 5) c) g c bx (ts ++ em5) #[(bif b0 then (.int .i64 (6)) else (.int .i64 (0))), (.int .i64 (pvS z1.data.toList)), (.int .i64 (0)), (.int .i64 (0)), (bif b1 then (.string z2) else (.string ⟨#[]⟩)), (bif b2 then (.string z3) else (.string ⟨#[]⟩))] W := h
        clear hnd
        have HST := Lib.hid h
        obtain ⟨e0, e1, e2, e3, e4, e5, f0, f1, f2, f3, f4, f5, el⟩ := ev_open h.ev; obtain ⟨l0, l1, l2⟩ := pz_lb h; have p2 := h.piece HZ2.out; have p3 := h.piece HZ3.out; have p4 := h.piece HZ4.out
        intro K Q hK
        simp only [putE, updAll, Act.put, List.setIfInBounds_toArray, List.set_cons_zero, List.set_cons_succ, List.set_nil] at hK ⊢
        go_wp2_with (fail)
        all_goals (first | exact hK _ (by first | exact h | exact h.step (by repeat' (first | exact Below.refl _ _ | apply bDrewN | apply bDrew))) | exact (by first | exact h | exact h.step (by repeat' (first | exact Below.refl _ _ | apply bDrewN | apply bDrew))))
      · refine ⟨72, (.pointer (some ⟨g, 3, none⟩)), rfl, by kernel_rfl, ?_⟩
        intro bsE vsE W hlb hlv hnd h
        obtain ⟨b0, bsE0, rfl, hlb0⟩ := len_one hlb
        obtain ⟨v0, vsE0, rfl, hlv0⟩ := len_one hlv
        obtain ⟨b1, bsE1, rfl, hlb1⟩ := len_one hlb0
        obtain ⟨v1, vsE1, rfl, hlv1⟩ := len_one hlv0
        obtain ⟨b2, bsE2, rfl, hlb2⟩ := len_one hlb1
        obtain ⟨v2, vsE2, rfl, hlv2⟩ := len_one hlv1
        obtain rfl := len_nil hlb2
        obtain rfl := len_nil hlv2
        replace h : PZ w (KP w g (ts.length + 5) c) g c bx (ts ++ em5) #[(bif b0 then (.int .i64 (6)) else (.int .i64 (0))), (.int .i64 (pvS z1.data.toList)), (.int .i64 (0)), (.int .i64 (0)), (bif b1 then (.string z2) else (.string ⟨#[]⟩)), (bif b2 then (.string z3) else (.string ⟨#[]⟩))] W := h
        clear hnd
        have HST := Lib.hid h
        obtain ⟨e0, e1, e2, e3, e4, e5, f0, f1, f2, f3, f4, f5, el⟩ := ev_open h.ev; obtain ⟨l0, l1, l2⟩ := pz_lb h; have p2 := h.piece HZ2.out; have p3 := h.piece HZ3.out; have p4 := h.piece HZ4.out
        intro K Q hK
        simp only [putE, updAll, Act.put, List.setIfInBounds_toArray, List.set_cons_zero, List.set_cons_succ, List.set_nil] at hK ⊢
        go_wp2_with (fail)
        all_goals (first | exact hK _ (by first | exact h | exact h.step (by repeat' (first | exact Below.refl _ _ | apply bDrewN | apply bDrew))) | exact (by first | exact h | exact h.step (by repeat' (first | exact Below.refl _ _ | apply bDrewN | apply bDrew))))
      · refine ⟨73, (.string z3), rfl, by kernel_rfl, ?_⟩
        intro bsE vsE W hlb hlv hnd h
        obtain ⟨b0, bsE0, rfl, hlb0⟩ := len_one hlb
        obtain ⟨v0, vsE0, rfl, hlv0⟩ := len_one hlv
        obtain ⟨b1, bsE1, rfl, hlb1⟩ := len_one hlb0
        obtain ⟨v1, vsE1, rfl, hlv1⟩ := len_one hlv0
        obtain ⟨b2, bsE2, rfl, hlb2⟩ := len_one hlb1
        obtain ⟨v2, vsE2, rfl, hlv2⟩ := len_one hlv1
        obtain rfl := len_nil hlb2
        obtain rfl := len_nil hlv2
        replace h : PZ w (KP w g (ts.length + 5) c) g c bx (ts ++ em5) #[(bif b0 then (.int .i64 (6)) else (.int .i64 (0))), (.int .i64 (pvS z1.data.toList)), (.int .i64 (0)), (.int .i64 (0)), (bif b1 then (.string z2) else (.string ⟨#[]⟩)), (bif b2 then (.string z3) else (.string ⟨#[]⟩))] W := h
        clear hnd
        have HST := Lib.hid h
        obtain ⟨e0, e1, e2, e3, e4, e5, f0, f1, f2, f3, f4, f5, el⟩ := ev_open h.ev; obtain ⟨l0, l1, l2⟩ := pz_lb h; have p2 := h.piece HZ2.out; have p3 := h.piece HZ3.out; have p4 := h.piece HZ4.out
        intro K Q hK
        simp only [putE, updAll, Act.put, List.setIfInBounds_toArray, List.set_cons_zero, List.set_cons_succ, List.set_nil] at hK ⊢
        go_wp2_with (fail)
        all_goals (first | exact hK _ (by first | exact h | exact h.step (by repeat' (first | exact Below.refl _ _ | apply bDrewN | apply bDrew))) | exact (by first | exact h | exact h.step (by repeat' (first | exact Below.refl _ _ | apply bDrewN | apply bDrew))))
      · refine ⟨74, (.pointer (some ⟨bx, 0, none⟩)), rfl, by kernel_rfl, ?_⟩
        intro bsE vsE W hlb hlv hnd h
        obtain ⟨b0, bsE0, rfl, hlb0⟩ := len_one hlb
        obtain ⟨v0, vsE0, rfl, hlv0⟩ := len_one hlv
        obtain ⟨b1, bsE1, rfl, hlb1⟩ := len_one hlb0
        obtain ⟨v1, vsE1, rfl, hlv1⟩ := len_one hlv0
        obtain ⟨b2, bsE2, rfl, hlb2⟩ := len_one hlb1
        obtain ⟨v2, vsE2, rfl, hlv2⟩ := len_one hlv1
        obtain rfl := len_nil hlb2
        obtain rfl := len_nil hlv2
        replace h : PZ w (KP w g (ts.length + 5) c) g c bx (ts ++ em5) #[(bif b0 then (.int .i64 (6)) else (.int .i64 (0))), (.int .i64 (pvS z1.data.toList)), (.int .i64 (0)), (.int .i64 (0)), (bif b1 then (.string z2) else (.string ⟨#[]⟩)), (bif b2 then (.string z3) else (.string ⟨#[]⟩))] W := h
        clear hnd
        have HST := Lib.hid h
        obtain ⟨e0, e1, e2, e3, e4, e5, f0, f1, f2, f3, f4, f5, el⟩ := ev_open h.ev; obtain ⟨l0, l1, l2⟩ := pz_lb h; have p2 := h.piece HZ2.out; have p3 := h.piece HZ3.out; have p4 := h.piece HZ4.out
        intro K Q hK
        simp only [putE, updAll, Act.put, List.setIfInBounds_toArray, List.set_cons_zero, List.set_cons_succ, List.set_nil] at hK ⊢
        go_wp2_with (fail)
        all_goals (first | exact hK _ (by first | exact h | exact h.step (by repeat' (first | exact Below.refl _ _ | apply bDrewN | apply bDrew))) | exact (by first | exact h | exact h.step (by repeat' (first | exact Below.refl _ _ | apply bDrewN | apply bDrew))))
      · refine Or.inr ⟨rfl, ?_⟩
        intro bsE vsE W hlb hlv hnd hbk h
        obtain ⟨b0, bsE0, rfl, hlb0⟩ := len_one hlb
        obtain ⟨v0, vsE0, rfl, hlv0⟩ := len_one hlv
        obtain ⟨b1, bsE1, rfl, hlb1⟩ := len_one hlb0
        obtain ⟨v1, vsE1, rfl, hlv1⟩ := len_one hlv0
        obtain ⟨b2, bsE2, rfl, hlb2⟩ := len_one hlb1
        obtain ⟨v2, vsE2, rfl, hlv2⟩ := len_one hlv1
        obtain rfl := len_nil hlb2
        obtain rfl := len_nil hlv2
        obtain rfl : b0 = false := hbk
        replace h : PZ w (KP w g (ts.length + 5) c) g c bx (ts ++ em5) #[(bif false then (.int .i64 (6)) else (.int .i64 (0))), (.int .i64 (pvS z1.data.toList)), (.int .i64 (0)), (.int .i64 (0)), (bif b1 then (.string z2) else (.string ⟨#[]⟩)), (bif b2 then (.string z3) else (.string ⟨#[]⟩))] W := h
        clear hnd
        have HST := Lib.hid h
        obtain ⟨e0, e1, e2, e3, e4, e5, f0, f1, f2, f3, f4, f5, el⟩ := ev_open h.ev; obtain ⟨l0, l1, l2⟩ := pz_lb h; have p2 := h.piece HZ2.out; have p3 := h.piece HZ3.out; have p4 := h.piece HZ4.out
        intro K Q hK
        simp only [putE, updAll, Act.put, List.setIfInBounds_toArray, List.set_cons_zero, List.set_cons_succ, List.set_nil] at hK ⊢
        go_wp2_with fail
        all_goals (first | exact hK _ (h.set0 _) | exact h.set0 _)
      · refine ⟨75, (.pointer (some ⟨bx, 4, none⟩)), rfl, by kernel_rfl, ?_⟩
        intro bsE vsE W hlb hlv hnd h
        obtain ⟨b0, bsE0, rfl, hlb0⟩ := len_one hlb
        obtain ⟨v0, vsE0, rfl, hlv0⟩ := len_one hlv
        obtain ⟨b1, bsE1, rfl, hlb1⟩ := len_one hlb0
        obtain ⟨v1, vsE1, rfl, hlv1⟩ := len_one hlv0
        obtain ⟨b2, bsE2, rfl, hlb2⟩ := len_one hlb1
        obtain ⟨v2, vsE2, rfl, hlv2⟩ := len_one hlv1
        obtain rfl := len_nil hlb2
        obtain rfl := len_nil hlv2
        replace h : PZ w (KP w g (ts.length + 5) c) g c bx (ts ++ em5) #[(bif b0 then (.int .i64 (6)) else (.int .i64 (0))), (.int .i64 (pvS z1.data.toList)), (.int .i64 (0)), (.int .i64 (0)), (bif b1 then (.string z2) else (.string ⟨#[]⟩)), (bif b2 then (.string z3) else (.string ⟨#[]⟩))] W := h
        clear hnd
        have HST := Lib.hid h
        obtain ⟨e0, e1, e2, e3, e4, e5, f0, f1, f2, f3, f4, f5, el⟩ := ev_open h.ev; obtain ⟨l0, l1, l2⟩ := pz_lb h; have p2 := h.piece HZ2.out; have p3 := h.piece HZ3.out; have p4 := h.piece HZ4.out
        intro K Q hK
        simp only [putE, updAll, Act.put, List.setIfInBounds_toArray, List.set_cons_zero, List.set_cons_succ, List.set_nil] at hK ⊢
        go_wp2_with (fail)
        all_goals (first | exact hK _ (by first | exact h | exact h.step (by repeat' (first | exact Below.refl _ _ | apply bDrewN | apply bDrew))) | exact (by first | exact h | exact h.step (by repeat' (first | exact Below.refl _ _ | apply bDrewN | apply bDrew))))
      · refine Or.inr ⟨rfl, ?_⟩
        intro bsE vsE W hlb hlv hnd hbk h
        obtain ⟨b0, bsE0, rfl, hlb0⟩ := len_one hlb
        obtain ⟨v0, vsE0, rfl, hlv0⟩ := len_one hlv
        obtain ⟨b1, bsE1, rfl, hlb1⟩ := len_one hlb0
        obtain ⟨v1, vsE1, rfl, hlv1⟩ := len_one hlv0
        obtain ⟨b2, bsE2, rfl, hlb2⟩ := len_one hlb1
        obtain ⟨v2, vsE2, rfl, hlv2⟩ := len_one hlv1
        obtain rfl := len_nil hlb2
        obtain rfl := len_nil hlv2
        obtain rfl : b1 = false := hbk
        replace h : PZ w (KP w g (ts.length + 5) c) g c bx (ts ++ em5) #[(bif b0 then (.int .i64 (6)) else (.int .i64 (0))), (.int .i64 (pvS z1.data.toList)), (.int .i64 (0)), (.int .i64 (0)), (bif false then (.string z2) else (.string ⟨#[]⟩)), (bif b2 then (.string z3) else (.string ⟨#[]⟩))] W := h
        clear hnd
        have HST := Lib.hid h
        obtain ⟨e0, e1, e2, e3, e4, e5, f0, f1, f2, f3, f4, f5, el⟩ := ev_open h.ev; obtain ⟨l0, l1, l2⟩ := pz_lb h; have p2 := h.piece HZ2.out; have p3 := h.piece HZ3.out; have p4 := h.piece HZ4.out
        intro K Q hK
        simp only [putE, updAll, Act.put, List.setIfInBounds_toArray, List.set_cons_zero, List.set_cons_succ, List.set_nil] at hK ⊢
        go_wp2_with fail
        all_goals (first | exact hK _ (h.set4 _) | exact h.set4 _)
      · refine ⟨76, (.pointer (some ⟨bx, 5, none⟩)), rfl, by kernel_rfl, ?_⟩
        intro bsE vsE W hlb hlv hnd h
        obtain ⟨b0, bsE0, rfl, hlb0⟩ := len_one hlb
        obtain ⟨v0, vsE0, rfl, hlv0⟩ := len_one hlv
        obtain ⟨b1, bsE1, rfl, hlb1⟩ := len_one hlb0
        obtain ⟨v1, vsE1, rfl, hlv1⟩ := len_one hlv0
        obtain ⟨b2, bsE2, rfl, hlb2⟩ := len_one hlb1
        obtain ⟨v2, vsE2, rfl, hlv2⟩ := len_one hlv1
        obtain rfl := len_nil hlb2
        obtain rfl := len_nil hlv2
        replace h : PZ w (KP w g (ts.length + 5) c) g c bx (ts ++ em5) #[(bif b0 then (.int .i64 (6)) else (.int .i64 (0))), (.int .i64 (pvS z1.data.toList)), (.int .i64 (0)), (.int .i64 (0)), (bif b1 then (.string z2) else (.string ⟨#[]⟩)), (bif b2 then (.string z3) else (.string ⟨#[]⟩))] W := h
        clear hnd
        have HST := Lib.hid h
        obtain ⟨e0, e1, e2, e3, e4, e5, f0, f1, f2, f3, f4, f5, el⟩ := ev_open h.ev; obtain ⟨l0, l1, l2⟩ := pz_lb h; have p2 := h.piece HZ2.out; have p3 := h.piece HZ3.out; have p4 := h.piece HZ4.out
        intro K Q hK
        simp only [putE, updAll, Act.put, List.setIfInBounds_toArray, List.set_cons_zero, List.set_cons_succ, List.set_nil] at hK ⊢
        go_wp2_with (fail)
        all_goals (first | exact hK _ (by first | exact h | exact h.step (by repeat' (first | exact Below.refl _ _ | apply bDrewN | apply bDrew))) | exact (by first | exact h | exact h.step (by repeat' (first | exact Below.refl _ _ | apply bDrewN | apply bDrew))))
      · refine Or.inr ⟨rfl, ?_⟩
        intro bsE vsE W hlb hlv hnd hbk h
        obtain ⟨b0, bsE0, rfl, hlb0⟩ := len_one hlb
        obtain ⟨v0, vsE0, rfl, hlv0⟩ := len_one hlv
        obtain ⟨b1, bsE1, rfl, hlb1⟩ := len_one hlb0
        obtain ⟨v1, vsE1, rfl, hlv1⟩ := len_one hlv0
        obtain ⟨b2, bsE2, rfl, hlb2⟩ := len_one hlb1
        obtain ⟨v2, vsE2, rfl, hlv2⟩ := len_one hlv1
        obtain rfl := len_nil hlb2
        obtain rfl := len_nil hlv2
        obtain rfl : b2 = false := hbk
        replace h : PZ w (KP w g (ts.length + 5) c) g c bx (ts ++ em5) #[(bif b0 then (.int .i64 (6)) else (.int .i64 (0))), (.int .i64 (pvS z1.data.toList)), (.int .i64 (0)), (.int .i64 (0)), (bif b1 then (.string z2) else (.string ⟨#[]⟩)), (bif false then (.string z3) else (.string ⟨#[]⟩))] W := h
        clear hnd
        have HST := Lib.hid h
        obtain ⟨e0, e1, e2, e3, e4, e5, f0, f1, f2, f3, f4, f5, el⟩ := ev_open h.ev; obtain ⟨l0, l1, l2⟩ := pz_lb h; have p2 := h.piece HZ2.out; have p3 := h.piece HZ3.out; have p4 := h.piece HZ4.out
        intro K Q hK
        simp only [putE, updAll, Act.put, List.setIfInBounds_toArray, List.set_cons_zero, List.set_cons_succ, List.set_nil] at hK ⊢
        go_wp2_with fail
        all_goals (first | exact hK _ (h.set5 _) | exact h.set5 _)
    case done =>
      intro vsE W hlv h
      obtain ⟨v0, vsE0, rfl, hlv0⟩ := len_one hlv
      obtain ⟨v1, vsE1, rfl, hlv1⟩ := len_one hlv0
      obtain ⟨v2, vsE2, rfl, hlv2⟩ := len_one hlv1
      obtain rfl := len_nil hlv2
      replace h : PZ w (KP w g (ts.length + 5) c) g c bx (ts ++ em5) #[(bif true then (.int .i64 (6)) else (.int .i64 (0))), (.int .i64 (pvS z1.data.toList)), (.int .i64 (0)), (.int .i64 (0)), (bif true then (.string z2) else (.string ⟨#[]⟩)), (bif true then (.string z3) else (.string ⟨#[]⟩))] W := h
      have HST := Lib.hid h
      have P5 : Hid (PZ w (KP w g (ts.length + 5) c) g c bx (ts ++ em5) #[(.int .i64 (6)), (.int .i64 (pvS z1.data.toList)), (.int .i64 (0)), (.int .i64 (0)), (.string z2), (.string z3)] W) := h
      clear h HST P2 l0 l1 l2 e0 e1 e2 e3 e4 e5 f0 f1 f2 f3 f4 f5 el
      simp only [putE, updAll, Act.put, List.setIfInBounds_toArray, List.set_cons_zero, List.set_cons_succ, List.set_nil]
      go_upto_region 25 with fail
      have HT := HPAR.out 6 (pvS z1.data.toList) (0) (0) z2 z3 (by simp [mkE, HKK.out, word])
      have CT := Lib.hid (fun W hG => PText_any 6 (pvS z1.data.toList) (0) (0) z2 z3 W hG HZs2.out HZs3.out)
      clear HPAR HKK
      rcases HT with ⟨q1, q2⟩ | ⟨x, q1, q3, q2⟩ | ⟨q1, q2⟩
      · rw [q1] at CT
        dsimp only at CT
        have HQ := Lib.hid q2
        clear q1 q2
        have E1 := ev_open P5.out.ev
        obtain ⟨e0, e1, e2, e3, e4, e5, f0, f1, f2, f3, f4, f5, el⟩ := E1
        go_wp2_with (go_at_call 8; refine (CT.out _ (gstep HG.out P5.out.bel)).mono ?_; rintro e w9 ⟨rfl, hb9⟩; have P9 := Lib.hid (P5.out.step hb9); clear P5 hb9 e0 e1 e2 e3 e4 e5 f0 f1 f2 f3 f4 f5 el; obtain ⟨e0, e1, e2, e3, e4, e5, f0, f1, f2, f3, f4, f5, el⟩ := ev_open P9.out.ev; obtain ⟨r0, r1, r2, r3, r4, r5, t0, t1, t2, t3, t4, t5, rl⟩ := ev_open (x0 := .int .i64 0) (x1 := .int .i64 0) (x2 := .int .i64 0) (x3 := .int .i64 0) (x4 := .string ⟨#[]⟩) (x5 := .string ⟨#[]⟩) (pz_res P9.out))
        exact bodyPost_ret (v := .tuple #[.agg #[(.int .i64 (6)), (.int .i64 (pvS z1.data.toList)), (.int .i64 (0)), (.int .i64 (0)), (.string z2), (.string z3)], .int .i64 0]) (res_cell Tryz.results10 rfl (ev_load (ev_put (pz_res P9.out))) rfl) rfl ⟨by rw [HQ.out], ev_bel P9.out.bel (Nat.le_refl _)⟩
      · rw [q1] at CT
        dsimp only at CT
        have HQ := Lib.hid q2
        clear q1 q2
        have d1 := ba_nl q3
        have d2 : (x.toList == s.toList) = false := by simpa using d1
        clear q3
        have E1 := ev_open P5.out.ev
        obtain ⟨e0, e1, e2, e3, e4, e5, f0, f1, f2, f3, f4, f5, el⟩ := E1
        go_wp2_with (go_at_call 8; refine (CT.out _ (gstep HG.out P5.out.bel)).mono ?_; rintro e w9 ⟨rfl, hb9⟩; have P9 := Lib.hid (P5.out.step hb9); clear P5 hb9 e0 e1 e2 e3 e4 e5 f0 f1 f2 f3 f4 f5 el; obtain ⟨e0, e1, e2, e3, e4, e5, f0, f1, f2, f3, f4, f5, el⟩ := ev_open P9.out.ev; obtain ⟨r0, r1, r2, r3, r4, r5, t0, t1, t2, t3, t4, t5, rl⟩ := ev_open (x0 := .int .i64 0) (x1 := .int .i64 0) (x2 := .int .i64 0) (x3 := .int .i64 0) (x4 := .string ⟨#[]⟩) (x5 := .string ⟨#[]⟩) (pz_res P9.out))
        exact bodyPost_ret (v := zV) (res_cell Tryz.results10 rfl (ev_load (ev_put (pz_res P9.out))) rfl) rfl ⟨by rw [HQ.out], ev_bel P9.out.bel (Nat.le_refl _)⟩
      · rw [q1] at CT
        dsimp only at CT
        have HQ := Lib.hid q2
        clear q1 q2
        have E1 := ev_open P5.out.ev
        obtain ⟨e0, e1, e2, e3, e4, e5, f0, f1, f2, f3, f4, f5, el⟩ := E1
        go_wp2_with (go_at_call 8; refine (CT.out _ (gstep HG.out P5.out.bel)).mono ?_; rintro e w9 ⟨rfl, hb9⟩; have P9 := Lib.hid (P5.out.step hb9); clear P5 hb9 e0 e1 e2 e3 e4 e5 f0 f1 f2 f3 f4 f5 el; obtain ⟨e0, e1, e2, e3, e4, e5, f0, f1, f2, f3, f4, f5, el⟩ := ev_open P9.out.ev; obtain ⟨r0, r1, r2, r3, r4, r5, t0, t1, t2, t3, t4, t5, rl⟩ := ev_open (x0 := .int .i64 0) (x1 := .int .i64 0) (x2 := .int .i64 0) (x3 := .int .i64 0) (x4 := .string ⟨#[]⟩) (x5 := .string ⟨#[]⟩) (pz_res P9.out))
        exact bodyPost_ret (v := zV) (res_cell Tryz.results10 rfl (ev_load (ev_put (pz_res P9.out))) rfl) rfl ⟨by rw [HQ.out], ev_bel P9.out.bel (Nat.le_refl _)⟩
  by_cases c7 : z0.data.toList = [114, 101, 99, 97, 108, 108]
  · have b1 := z_ne (z := z0) (l := [109, 97, 100, 101]) c1
    have b2 := z_ne (z := z0) (l := [117, 115, 101]) c2
    have b3 := z_ne (z := z0) (l := [116, 101, 115, 116]) c3
    have b4 := z_ne (z := z0) (l := [102, 97, 117, 108, 116]) c4
    have b5 := z_ne (z := z0) (l := [112, 117, 116]) c5
    have b6 := z_ne (z := z0) (l := [116, 97, 107, 101]) c6
    have b7 := z_eq (z := z0) (l := [114, 101, 99, 97, 108, 108]) c7
    have HKK : Hid (z0.data.toList = word 7) := c7
    clear c1 c2 c3 c4 c5 c6 c7
    simp only [b1]
    go_upto_region 20 with fail
    refine region_all 7 16 108 [(4, 108), (6, 109)] [(none, []), (none, []), (none, []), (none, []), (some 0, []), (none, []), (some 1, [])] [(79, (.slice (some ⟨g, 0, none⟩) (ts.length + 5) c)), (80, (.pointer (some ⟨g, 2, none⟩))), (81, (.string z2)), (82, (.pointer (some ⟨bx, 0, none⟩))), (83, (.pointer (some ⟨bx, 4, none⟩)))] (fun bsE vsE W => PZ w (KP w g (ts.length + 5) c) g c bx (ts ++ em5) #[(bif (bsE.getD 0 false) then (.int .i64 (7)) else (.int .i64 (0))), (.int .i64 (pvS z1.data.toList)), (.int .i64 (0)), (.int .i64 (0)), (bif (bsE.getD 1 false) then (.string z2) else (.string ⟨#[]⟩)), (.string ⟨#[]⟩)] W) (by kernel_rfl) (by kernel_rfl) rfl rfl (by kernel_rfl) (by rfl) ?h0 ?each ?done
    case h0 =>
      intro vsE hlv
      obtain ⟨v0, vsE0, rfl, hlv0⟩ := len_one hlv
      obtain ⟨v1, vsE1, rfl, hlv1⟩ := len_one hlv0
      obtain rfl := len_nil hlv1
      exact P2.out.step (Below.refl _ _).drew
    case each =>
      simp only [AllE]
      refine ⟨?_, ?_, ?_, ?_, ?_, ?_, ?_, trivial⟩
      · refine ⟨79, (.slice (some ⟨g, 0, none⟩) (ts.length + 5) c), rfl, by kernel_rfl, ?_⟩
        intro bsE vsE W hlb hlv hnd h
        obtain ⟨b0, bsE0, rfl, hlb0⟩ := len_one hlb
        obtain ⟨v0, vsE0, rfl, hlv0⟩ := len_one hlv
        obtain ⟨b1, bsE1, rfl, hlb1⟩ := len_one hlb0
        obtain ⟨v1, vsE1, rfl, hlv1⟩ := len_one hlv0
        obtain rfl := len_nil hlb1
        obtain rfl := len_nil hlv1
        replace h : PZ w (KP w g (ts.length + 5) c) g c bx (ts ++ em5) #[(bif b0 then (.int .i64 (7)) else (.int .i64 (0))), (.int .i64 (pvS z1.data.toList)), (.int .i64 (0)), (.int .i64 (0)), (bif b1 then (.string z2) else (.string ⟨#[]⟩)), (.string ⟨#[]⟩)] W := h
        clear hnd
        have HST := Lib.hid h
        obtain ⟨e0, e1, e2, e3, e4, e5, f0, f1, f2, f3, f4, f5, el⟩ := ev_open h.ev; obtain ⟨l0, l1, l2⟩ := pz_lb h; have p2 := h.piece HZ2.out; have p3 := h.piece HZ3.out; have p4 := h.piece HZ4.out
        intro K Q hK
        simp only [putE, updAll, Act.put, List.setIfInBounds_toArray, List.set_cons_zero, List.set_cons_succ, List.set_nil] at hK ⊢
        go_wp2_with (fail)
        all_goals (first | exact hK _ (by first | exact h | exact h.step (by repeat' (first | exact Below.refl _ _ | apply bDrewN | apply bDrew))) | exact (by first | exact h | exact h.step (by repeat' (first | exact Below.refl _ _ | apply bDrewN | apply bDrew))))
      · refine ⟨80, (.pointer (some ⟨g, 2, none⟩)), rfl, by kernel_rfl, ?_⟩
        intro bsE vsE W hlb hlv hnd h
        obtain ⟨b0, bsE0, rfl, hlb0⟩ := len_one hlb
        obtain ⟨v0, vsE0, rfl, hlv0⟩ := len_one hlv
        obtain ⟨b1, bsE1, rfl, hlb1⟩ := len_one hlb0
        obtain ⟨v1, vsE1, rfl, hlv1⟩ := len_one hlv0
        obtain rfl := len_nil hlb1
        obtain rfl := len_nil hlv1
        replace h : PZ w (KP w g (ts.length + 5) c) g c bx (ts ++ em5) #[(bif b0 then (.int .i64 (7)) else (.int .i64 (0))), (.int .i64 (pvS z1.data.toList)), (.int .i64 (0)), (.int .i64 (0)), (bif b1 then (.string z2) else (.string ⟨#[]⟩)), (.string ⟨#[]⟩)] W := h
        clear hnd
        have HST := Lib.hid h
        obtain ⟨e0, e1, e2, e3, e4, e5, f0, f1, f2, f3, f4, f5, el⟩ := ev_open h.ev; obtain ⟨l0, l1, l2⟩ := pz_lb h; have p2 := h.piece HZ2.out; have p3 := h.piece HZ3.out; have p4 := h.piece HZ4.out
        intro K Q hK
        simp only [putE, updAll, Act.put, List.setIfInBounds_toArray, List.set_cons_zero, List.set_cons_succ, List.set_nil] at hK ⊢
        go_wp2_with (fail)
        all_goals (first | exact hK _ (by first | exact h | exact h.step (by repeat' (first | exact Below.refl _ _ | apply bDrewN | apply bDrew))) | exact (by first | exact h | exact h.step (by repeat' (first | exact Below.refl _ _ | apply bDrewN | apply bDrew))))
      · refine ⟨81, (.string z2), rfl, by kernel_rfl, ?_⟩
        intro bsE vsE W hlb hlv hnd h
        obtain ⟨b0, bsE0, rfl, hlb0⟩ := len_one hlb
        obtain ⟨v0, vsE0, rfl, hlv0⟩ := len_one hlv
        obtain ⟨b1, bsE1, rfl, hlb1⟩ := len_one hlb0
        obtain ⟨v1, vsE1, rfl, hlv1⟩ := len_one hlv0
        obtain rfl := len_nil hlb1
        obtain rfl := len_nil hlv1
        replace h : PZ w (KP w g (ts.length + 5) c) g c bx (ts ++ em5) #[(bif b0 then (.int .i64 (7)) else (.int .i64 (0))), (.int .i64 (pvS z1.data.toList)), (.int .i64 (0)), (.int .i64 (0)), (bif b1 then (.string z2) else (.string ⟨#[]⟩)), (.string ⟨#[]⟩)] W := h
        clear hnd
        have HST := Lib.hid h
        obtain ⟨e0, e1, e2, e3, e4, e5, f0, f1, f2, f3, f4, f5, el⟩ := ev_open h.ev; obtain ⟨l0, l1, l2⟩ := pz_lb h; have p2 := h.piece HZ2.out; have p3 := h.piece HZ3.out; have p4 := h.piece HZ4.out
        intro K Q hK
        simp only [putE, updAll, Act.put, List.setIfInBounds_toArray, List.set_cons_zero, List.set_cons_succ, List.set_nil] at hK ⊢
        go_wp2_with (fail)
        all_goals (first | exact hK _ (by first | exact h | exact h.step (by repeat' (first | exact Below.refl _ _ | apply bDrewN | apply bDrew))) | exact (by first | exact h | exact h.step (by repeat' (first | exact Below.refl _ _ | apply bDrewN | apply bDrew))))
      · refine ⟨82, (.pointer (some ⟨bx, 0, none⟩)), rfl, by kernel_rfl, ?_⟩
        intro bsE vsE W hlb hlv hnd h
        obtain ⟨b0, bsE0, rfl, hlb0⟩ := len_one hlb
        obtain ⟨v0, vsE0, rfl, hlv0⟩ := len_one hlv
        obtain ⟨b1, bsE1, rfl, hlb1⟩ := len_one hlb0
        obtain ⟨v1, vsE1, rfl, hlv1⟩ := len_one hlv0
        obtain rfl := len_nil hlb1
        obtain rfl := len_nil hlv1
        replace h : PZ w (KP w g (ts.length + 5) c) g c bx (ts ++ em5) #[(bif b0 then (.int .i64 (7)) else (.int .i64 (0))), (.int .i64 (pvS z1.data.toList)), (.int .i64 (0)), (.int .i64 (0)), (bif b1 then (.string z2) else (.string ⟨#[]⟩)), (.string ⟨#[]⟩)] W := h
        clear hnd
        have HST := Lib.hid h
        obtain ⟨e0, e1, e2, e3, e4, e5, f0, f1, f2, f3, f4, f5, el⟩ := ev_open h.ev; obtain ⟨l0, l1, l2⟩ := pz_lb h; have p2 := h.piece HZ2.out; have p3 := h.piece HZ3.out; have p4 := h.piece HZ4.out
        intro K Q hK
        simp only [putE, updAll, Act.put, List.setIfInBounds_toArray, List.set_cons_zero, List.set_cons_succ, List.set_nil] at hK ⊢
        go_wp2_with (fail)
        all_goals (first | exact hK _ (by first | exact h | exact h.step (by repeat' (first | exact Below.refl _ _ | apply bDrewN | apply bDrew))) | exact (by first | exact h | exact h.step (by repeat' (first | exact Below.refl _ _ | apply bDrewN | apply bDrew))))
      · refine Or.inr ⟨rfl, ?_⟩
        intro bsE vsE W hlb hlv hnd hbk h
        obtain ⟨b0, bsE0, rfl, hlb0⟩ := len_one hlb
        obtain ⟨v0, vsE0, rfl, hlv0⟩ := len_one hlv
        obtain ⟨b1, bsE1, rfl, hlb1⟩ := len_one hlb0
        obtain ⟨v1, vsE1, rfl, hlv1⟩ := len_one hlv0
        obtain rfl := len_nil hlb1
        obtain rfl := len_nil hlv1
        obtain rfl : b0 = false := hbk
        replace h : PZ w (KP w g (ts.length + 5) c) g c bx (ts ++ em5) #[(bif false then (.int .i64 (7)) else (.int .i64 (0))), (.int .i64 (pvS z1.data.toList)), (.int .i64 (0)), (.int .i64 (0)), (bif b1 then (.string z2) else (.string ⟨#[]⟩)), (.string ⟨#[]⟩)] W := h
        clear hnd
        have HST := Lib.hid h
        obtain ⟨e0, e1, e2, e3, e4, e5, f0, f1, f2, f3, f4, f5, el⟩ := ev_open h.ev; obtain ⟨l0, l1, l2⟩ := pz_lb h; have p2 := h.piece HZ2.out; have p3 := h.piece HZ3.out; have p4 := h.piece HZ4.out
        intro K Q hK
        simp only [putE, updAll, Act.put, List.setIfInBounds_toArray, List.set_cons_zero, List.set_cons_succ, List.set_nil] at hK ⊢
        go_wp2_with fail
        all_goals (first | exact hK _ (h.set0 _) | exact h.set0 _)
      · refine ⟨83, (.pointer (some ⟨bx, 4, none⟩)), rfl, by kernel_rfl, ?_⟩
        intro bsE vsE W hlb hlv hnd h
        obtain ⟨b0, bsE0, rfl, hlb0⟩ := len_one hlb
        obtain ⟨v0, vsE0, rfl, hlv0⟩ := len_one hlv
        obtain ⟨b1, bsE1, rfl, hlb1⟩ := len_one hlb0
        obtain ⟨v1, vsE1, rfl, hlv1⟩ := len_one hlv0
        obtain rfl := len_nil hlb1
        obtain rfl := len_nil hlv1
        replace h : PZ w (KP w g (ts.length + 5) c) g c bx (ts ++ em5) #[(bif b0 then (.int .i64 (7)) else (.int .i64 (0))), (.int .i64 (pvS z1.data.toList)), (.int .i64 (0)), (.int .i64 (0)), (bif b1 then (.string z2) else (.string ⟨#[]⟩)), (.string ⟨#[]⟩)] W := h
        clear hnd
        have HST := Lib.hid h
        obtain ⟨e0, e1, e2, e3, e4, e5, f0, f1, f2, f3, f4, f5, el⟩ := ev_open h.ev; obtain ⟨l0, l1, l2⟩ := pz_lb h; have p2 := h.piece HZ2.out; have p3 := h.piece HZ3.out; have p4 := h.piece HZ4.out
        intro K Q hK
        simp only [putE, updAll, Act.put, List.setIfInBounds_toArray, List.set_cons_zero, List.set_cons_succ, List.set_nil] at hK ⊢
        go_wp2_with (fail)
        all_goals (first | exact hK _ (by first | exact h | exact h.step (by repeat' (first | exact Below.refl _ _ | apply bDrewN | apply bDrew))) | exact (by first | exact h | exact h.step (by repeat' (first | exact Below.refl _ _ | apply bDrewN | apply bDrew))))
      · refine Or.inr ⟨rfl, ?_⟩
        intro bsE vsE W hlb hlv hnd hbk h
        obtain ⟨b0, bsE0, rfl, hlb0⟩ := len_one hlb
        obtain ⟨v0, vsE0, rfl, hlv0⟩ := len_one hlv
        obtain ⟨b1, bsE1, rfl, hlb1⟩ := len_one hlb0
        obtain ⟨v1, vsE1, rfl, hlv1⟩ := len_one hlv0
        obtain rfl := len_nil hlb1
        obtain rfl := len_nil hlv1
        obtain rfl : b1 = false := hbk
        replace h : PZ w (KP w g (ts.length + 5) c) g c bx (ts ++ em5) #[(bif b0 then (.int .i64 (7)) else (.int .i64 (0))), (.int .i64 (pvS z1.data.toList)), (.int .i64 (0)), (.int .i64 (0)), (bif false then (.string z2) else (.string ⟨#[]⟩)), (.string ⟨#[]⟩)] W := h
        clear hnd
        have HST := Lib.hid h
        obtain ⟨e0, e1, e2, e3, e4, e5, f0, f1, f2, f3, f4, f5, el⟩ := ev_open h.ev; obtain ⟨l0, l1, l2⟩ := pz_lb h; have p2 := h.piece HZ2.out; have p3 := h.piece HZ3.out; have p4 := h.piece HZ4.out
        intro K Q hK
        simp only [putE, updAll, Act.put, List.setIfInBounds_toArray, List.set_cons_zero, List.set_cons_succ, List.set_nil] at hK ⊢
        go_wp2_with fail
        all_goals (first | exact hK _ (h.set4 _) | exact h.set4 _)
    case done =>
      intro vsE W hlv h
      obtain ⟨v0, vsE0, rfl, hlv0⟩ := len_one hlv
      obtain ⟨v1, vsE1, rfl, hlv1⟩ := len_one hlv0
      obtain rfl := len_nil hlv1
      replace h : PZ w (KP w g (ts.length + 5) c) g c bx (ts ++ em5) #[(bif true then (.int .i64 (7)) else (.int .i64 (0))), (.int .i64 (pvS z1.data.toList)), (.int .i64 (0)), (.int .i64 (0)), (bif true then (.string z2) else (.string ⟨#[]⟩)), (.string ⟨#[]⟩)] W := h
      have HST := Lib.hid h
      have P5 : Hid (PZ w (KP w g (ts.length + 5) c) g c bx (ts ++ em5) #[(.int .i64 (7)), (.int .i64 (pvS z1.data.toList)), (.int .i64 (0)), (.int .i64 (0)), (.string z2), (.string ⟨#[]⟩)] W) := h
      clear h HST P2 l0 l1 l2 e0 e1 e2 e3 e4 e5 f0 f1 f2 f3 f4 f5 el
      simp only [putE, updAll, Act.put, List.setIfInBounds_toArray, List.set_cons_zero, List.set_cons_succ, List.set_nil]
      go_upto_region 25 with fail
      have HT := HPAR.out 7 (pvS z1.data.toList) (0) (0) z2 ⟨#[]⟩ (by simp [mkE, HKK.out, word])
      have CT := Lib.hid (fun W hG => PText_any 7 (pvS z1.data.toList) (0) (0) z2 ⟨#[]⟩ W hG HZs2.out (by decide))
      clear HPAR HKK
      rcases HT with ⟨q1, q2⟩ | ⟨x, q1, q3, q2⟩ | ⟨q1, q2⟩
      · rw [q1] at CT
        dsimp only at CT
        have HQ := Lib.hid q2
        clear q1 q2
        have E1 := ev_open P5.out.ev
        obtain ⟨e0, e1, e2, e3, e4, e5, f0, f1, f2, f3, f4, f5, el⟩ := E1
        go_wp2_with (go_at_call 8; refine (CT.out _ (gstep HG.out P5.out.bel)).mono ?_; rintro e w9 ⟨rfl, hb9⟩; have P9 := Lib.hid (P5.out.step hb9); clear P5 hb9 e0 e1 e2 e3 e4 e5 f0 f1 f2 f3 f4 f5 el; obtain ⟨e0, e1, e2, e3, e4, e5, f0, f1, f2, f3, f4, f5, el⟩ := ev_open P9.out.ev; obtain ⟨r0, r1, r2, r3, r4, r5, t0, t1, t2, t3, t4, t5, rl⟩ := ev_open (x0 := .int .i64 0) (x1 := .int .i64 0) (x2 := .int .i64 0) (x3 := .int .i64 0) (x4 := .string ⟨#[]⟩) (x5 := .string ⟨#[]⟩) (pz_res P9.out))
        exact bodyPost_ret (v := .tuple #[.agg #[(.int .i64 (7)), (.int .i64 (pvS z1.data.toList)), (.int .i64 (0)), (.int .i64 (0)), (.string z2), (.string ⟨#[]⟩)], .int .i64 0]) (res_cell Tryz.results10 rfl (ev_load (ev_put (pz_res P9.out))) rfl) rfl ⟨by rw [HQ.out], ev_bel P9.out.bel (Nat.le_refl _)⟩
      · rw [q1] at CT
        dsimp only at CT
        have HQ := Lib.hid q2
        clear q1 q2
        have d1 := ba_nl q3
        have d2 : (x.toList == s.toList) = false := by simpa using d1
        clear q3
        have E1 := ev_open P5.out.ev
        obtain ⟨e0, e1, e2, e3, e4, e5, f0, f1, f2, f3, f4, f5, el⟩ := E1
        go_wp2_with (go_at_call 8; refine (CT.out _ (gstep HG.out P5.out.bel)).mono ?_; rintro e w9 ⟨rfl, hb9⟩; have P9 := Lib.hid (P5.out.step hb9); clear P5 hb9 e0 e1 e2 e3 e4 e5 f0 f1 f2 f3 f4 f5 el; obtain ⟨e0, e1, e2, e3, e4, e5, f0, f1, f2, f3, f4, f5, el⟩ := ev_open P9.out.ev; obtain ⟨r0, r1, r2, r3, r4, r5, t0, t1, t2, t3, t4, t5, rl⟩ := ev_open (x0 := .int .i64 0) (x1 := .int .i64 0) (x2 := .int .i64 0) (x3 := .int .i64 0) (x4 := .string ⟨#[]⟩) (x5 := .string ⟨#[]⟩) (pz_res P9.out))
        exact bodyPost_ret (v := zV) (res_cell Tryz.results10 rfl (ev_load (ev_put (pz_res P9.out))) rfl) rfl ⟨by rw [HQ.out], ev_bel P9.out.bel (Nat.le_refl _)⟩
      · rw [q1] at CT
        dsimp only at CT
        have HQ := Lib.hid q2
        clear q1 q2
        have E1 := ev_open P5.out.ev
        obtain ⟨e0, e1, e2, e3, e4, e5, f0, f1, f2, f3, f4, f5, el⟩ := E1
        go_wp2_with (go_at_call 8; refine (CT.out _ (gstep HG.out P5.out.bel)).mono ?_; rintro e w9 ⟨rfl, hb9⟩; have P9 := Lib.hid (P5.out.step hb9); clear P5 hb9 e0 e1 e2 e3 e4 e5 f0 f1 f2 f3 f4 f5 el; obtain ⟨e0, e1, e2, e3, e4, e5, f0, f1, f2, f3, f4, f5, el⟩ := ev_open P9.out.ev; obtain ⟨r0, r1, r2, r3, r4, r5, t0, t1, t2, t3, t4, t5, rl⟩ := ev_open (x0 := .int .i64 0) (x1 := .int .i64 0) (x2 := .int .i64 0) (x3 := .int .i64 0) (x4 := .string ⟨#[]⟩) (x5 := .string ⟨#[]⟩) (pz_res P9.out))
        exact bodyPost_ret (v := zV) (res_cell Tryz.results10 rfl (ev_load (ev_put (pz_res P9.out))) rfl) rfl ⟨by rw [HQ.out], ev_bel P9.out.bel (Nat.le_refl _)⟩
  by_cases c8 : z0.data.toList = [99, 108, 101, 97, 114]
  · have b1 := z_ne (z := z0) (l := [109, 97, 100, 101]) c1
    have b2 := z_ne (z := z0) (l := [117, 115, 101]) c2
    have b3 := z_ne (z := z0) (l := [116, 101, 115, 116]) c3
    have b4 := z_ne (z := z0) (l := [102, 97, 117, 108, 116]) c4
    have b5 := z_ne (z := z0) (l := [112, 117, 116]) c5
    have b6 := z_ne (z := z0) (l := [116, 97, 107, 101]) c6
    have b7 := z_ne (z := z0) (l := [114, 101, 99, 97, 108, 108]) c7
    have b8 := z_eq (z := z0) (l := [99, 108, 101, 97, 114]) c8
    have HKK : Hid (z0.data.toList = word 8) := c8
    clear c1 c2 c3 c4 c5 c6 c7 c8
    simp only [b1]
    go_upto_region 22 with fail
    refine region_all 7 16 108 [(4, 108), (6, 109)] [(none, []), (none, []), (none, []), (none, []), (some 0, []), (none, []), (some 1, [])] [(86, (.slice (some ⟨g, 0, none⟩) (ts.length + 5) c)), (87, (.pointer (some ⟨g, 2, none⟩))), (88, (.string z2)), (89, (.pointer (some ⟨bx, 0, none⟩))), (90, (.pointer (some ⟨bx, 4, none⟩)))] (fun bsE vsE W => PZ w (KP w g (ts.length + 5) c) g c bx (ts ++ em5) #[(bif (bsE.getD 0 false) then (.int .i64 (8)) else (.int .i64 (0))), (.int .i64 (pvS z1.data.toList)), (.int .i64 (0)), (.int .i64 (0)), (bif (bsE.getD 1 false) then (.string z2) else (.string ⟨#[]⟩)), (.string ⟨#[]⟩)] W) (by kernel_rfl) (by kernel_rfl) rfl rfl (by kernel_rfl) (by rfl) ?h0 ?each ?done
    case h0 =>
      intro vsE hlv
      obtain ⟨v0, vsE0, rfl, hlv0⟩ := len_one hlv
      obtain ⟨v1, vsE1, rfl, hlv1⟩ := len_one hlv0
      obtain rfl := len_nil hlv1
      exact P2.out.step (Below.refl _ _).drew
    case each =>
      simp only [AllE]
      refine ⟨?_, ?_, ?_, ?_, ?_, ?_, ?_, trivial⟩
      · refine ⟨86, (.slice (some ⟨g, 0, none⟩) (ts.length + 5) c), rfl, by kernel_rfl, ?_⟩
        intro bsE vsE W hlb hlv hnd h
        obtain ⟨b0, bsE0, rfl, hlb0⟩ := len_one hlb
        obtain ⟨v0, vsE0, rfl, hlv0⟩ := len_one hlv
        obtain ⟨b1, bsE1, rfl, hlb1⟩ := len_one hlb0
        obtain ⟨v1, vsE1, rfl, hlv1⟩ := len_one hlv0
        obtain rfl := len_nil hlb1
        obtain rfl := len_nil hlv1
        replace h : PZ w (KP w g (ts.length + 5) c) g c bx (ts ++ em5) #[(bif b0 then (.int .i64 (8)) else (.int .i64 (0))), (.int .i64 (pvS z1.data.toList)), (.int .i64 (0)), (.int .i64 (0)), (bif b1 then (.string z2) else (.string ⟨#[]⟩)), (.string ⟨#[]⟩)] W := h
        clear hnd
        have HST := Lib.hid h
        obtain ⟨e0, e1, e2, e3, e4, e5, f0, f1, f2, f3, f4, f5, el⟩ := ev_open h.ev; obtain ⟨l0, l1, l2⟩ := pz_lb h; have p2 := h.piece HZ2.out; have p3 := h.piece HZ3.out; have p4 := h.piece HZ4.out
        intro K Q hK
        simp only [putE, updAll, Act.put, List.setIfInBounds_toArray, List.set_cons_zero, List.set_cons_succ, List.set_nil] at hK ⊢
        go_wp2_with (fail)
        all_goals (first | exact hK _ (by first | exact h | exact h.step (by repeat' (first | exact Below.refl _ _ | apply bDrewN | apply bDrew))) | exact (by first | exact h | exact h.step (by repeat' (first | exact Below.refl _ _ | apply bDrewN | apply bDrew))))
      · refine ⟨87, (.pointer (some ⟨g, 2, none⟩)), rfl, by kernel_rfl, ?_⟩
        intro bsE vsE W hlb hlv hnd h
        obtain ⟨b0, bsE0, rfl, hlb0⟩ := len_one hlb
        obtain ⟨v0, vsE0, rfl, hlv0⟩ := len_one hlv
        obtain ⟨b1, bsE1, rfl, hlb1⟩ := len_one hlb0
        obtain ⟨v1, vsE1, rfl, hlv1⟩ := len_one hlv0
        obtain rfl := len_nil hlb1
        obtain rfl := len_nil hlv1
        replace h : PZ w (KP w g (ts.length + 5) c) g c bx (ts ++ em5) #[(bif b0 then (.int .i64 (8)) else (.int .i64 (0))), (.int .i64 (pvS z1.data.toList)), (.int .i64 (0)), (.int .i64 (0)), (bif b1 then (.string z2) else (.string ⟨#[]⟩)), (.string ⟨#[]⟩)] W := h
        clear hnd
        have HST := Lib.hid h
        obtain ⟨e0, e1, e2, e3, e4, e5, f0, f1, f2, f3, f4, f5, el⟩ := ev_open h.ev; obtain ⟨l0, l1, l2⟩ := pz_lb h; have p2 := h.piece HZ2.out; have p3 := h.piece HZ3.out; have p4 := h.piece HZ4.out
        intro K Q hK
        simp only [putE, updAll, Act.put, List.setIfInBounds_toArray, List.set_cons_zero, List.set_cons_succ, List.set_nil] at hK ⊢
        go_wp2_with (fail)
        all_goals (first | exact hK _ (by first | exact h | exact h.step (by repeat' (first | exact Below.refl _ _ | apply bDrewN | apply bDrew))) | exact (by first | exact h | exact h.step (by repeat' (first | exact Below.refl _ _ | apply bDrewN | apply bDrew))))
      · refine ⟨88, (.string z2), rfl, by kernel_rfl, ?_⟩
        intro bsE vsE W hlb hlv hnd h
        obtain ⟨b0, bsE0, rfl, hlb0⟩ := len_one hlb
        obtain ⟨v0, vsE0, rfl, hlv0⟩ := len_one hlv
        obtain ⟨b1, bsE1, rfl, hlb1⟩ := len_one hlb0
        obtain ⟨v1, vsE1, rfl, hlv1⟩ := len_one hlv0
        obtain rfl := len_nil hlb1
        obtain rfl := len_nil hlv1
        replace h : PZ w (KP w g (ts.length + 5) c) g c bx (ts ++ em5) #[(bif b0 then (.int .i64 (8)) else (.int .i64 (0))), (.int .i64 (pvS z1.data.toList)), (.int .i64 (0)), (.int .i64 (0)), (bif b1 then (.string z2) else (.string ⟨#[]⟩)), (.string ⟨#[]⟩)] W := h
        clear hnd
        have HST := Lib.hid h
        obtain ⟨e0, e1, e2, e3, e4, e5, f0, f1, f2, f3, f4, f5, el⟩ := ev_open h.ev; obtain ⟨l0, l1, l2⟩ := pz_lb h; have p2 := h.piece HZ2.out; have p3 := h.piece HZ3.out; have p4 := h.piece HZ4.out
        intro K Q hK
        simp only [putE, updAll, Act.put, List.setIfInBounds_toArray, List.set_cons_zero, List.set_cons_succ, List.set_nil] at hK ⊢
        go_wp2_with (fail)
        all_goals (first | exact hK _ (by first | exact h | exact h.step (by repeat' (first | exact Below.refl _ _ | apply bDrewN | apply bDrew))) | exact (by first | exact h | exact h.step (by repeat' (first | exact Below.refl _ _ | apply bDrewN | apply bDrew))))
      · refine ⟨89, (.pointer (some ⟨bx, 0, none⟩)), rfl, by kernel_rfl, ?_⟩
        intro bsE vsE W hlb hlv hnd h
        obtain ⟨b0, bsE0, rfl, hlb0⟩ := len_one hlb
        obtain ⟨v0, vsE0, rfl, hlv0⟩ := len_one hlv
        obtain ⟨b1, bsE1, rfl, hlb1⟩ := len_one hlb0
        obtain ⟨v1, vsE1, rfl, hlv1⟩ := len_one hlv0
        obtain rfl := len_nil hlb1
        obtain rfl := len_nil hlv1
        replace h : PZ w (KP w g (ts.length + 5) c) g c bx (ts ++ em5) #[(bif b0 then (.int .i64 (8)) else (.int .i64 (0))), (.int .i64 (pvS z1.data.toList)), (.int .i64 (0)), (.int .i64 (0)), (bif b1 then (.string z2) else (.string ⟨#[]⟩)), (.string ⟨#[]⟩)] W := h
        clear hnd
        have HST := Lib.hid h
        obtain ⟨e0, e1, e2, e3, e4, e5, f0, f1, f2, f3, f4, f5, el⟩ := ev_open h.ev; obtain ⟨l0, l1, l2⟩ := pz_lb h; have p2 := h.piece HZ2.out; have p3 := h.piece HZ3.out; have p4 := h.piece HZ4.out
        intro K Q hK
        simp only [putE, updAll, Act.put, List.setIfInBounds_toArray, List.set_cons_zero, List.set_cons_succ, List.set_nil] at hK ⊢
        go_wp2_with (fail)
        all_goals (first | exact hK _ (by first | exact h | exact h.step (by repeat' (first | exact Below.refl _ _ | apply bDrewN | apply bDrew))) | exact (by first | exact h | exact h.step (by repeat' (first | exact Below.refl _ _ | apply bDrewN | apply bDrew))))
      · refine Or.inr ⟨rfl, ?_⟩
        intro bsE vsE W hlb hlv hnd hbk h
        obtain ⟨b0, bsE0, rfl, hlb0⟩ := len_one hlb
        obtain ⟨v0, vsE0, rfl, hlv0⟩ := len_one hlv
        obtain ⟨b1, bsE1, rfl, hlb1⟩ := len_one hlb0
        obtain ⟨v1, vsE1, rfl, hlv1⟩ := len_one hlv0
        obtain rfl := len_nil hlb1
        obtain rfl := len_nil hlv1
        obtain rfl : b0 = false := hbk
        replace h : PZ w (KP w g (ts.length + 5) c) g c bx (ts ++ em5) #[(bif false then (.int .i64 (8)) else (.int .i64 (0))), (.int .i64 (pvS z1.data.toList)), (.int .i64 (0)), (.int .i64 (0)), (bif b1 then (.string z2) else (.string ⟨#[]⟩)), (.string ⟨#[]⟩)] W := h
        clear hnd
        have HST := Lib.hid h
        obtain ⟨e0, e1, e2, e3, e4, e5, f0, f1, f2, f3, f4, f5, el⟩ := ev_open h.ev; obtain ⟨l0, l1, l2⟩ := pz_lb h; have p2 := h.piece HZ2.out; have p3 := h.piece HZ3.out; have p4 := h.piece HZ4.out
        intro K Q hK
        simp only [putE, updAll, Act.put, List.setIfInBounds_toArray, List.set_cons_zero, List.set_cons_succ, List.set_nil] at hK ⊢
        go_wp2_with fail
        all_goals (first | exact hK _ (h.set0 _) | exact h.set0 _)
      · refine ⟨90, (.pointer (some ⟨bx, 4, none⟩)), rfl, by kernel_rfl, ?_⟩
        intro bsE vsE W hlb hlv hnd h
        obtain ⟨b0, bsE0, rfl, hlb0⟩ := len_one hlb
        obtain ⟨v0, vsE0, rfl, hlv0⟩ := len_one hlv
        obtain ⟨b1, bsE1, rfl, hlb1⟩ := len_one hlb0
        obtain ⟨v1, vsE1, rfl, hlv1⟩ := len_one hlv0
        obtain rfl := len_nil hlb1
        obtain rfl := len_nil hlv1
        replace h : PZ w (KP w g (ts.length + 5) c) g c bx (ts ++ em5) #[(bif b0 then (.int .i64 (8)) else (.int .i64 (0))), (.int .i64 (pvS z1.data.toList)), (.int .i64 (0)), (.int .i64 (0)), (bif b1 then (.string z2) else (.string ⟨#[]⟩)), (.string ⟨#[]⟩)] W := h
        clear hnd
        have HST := Lib.hid h
        obtain ⟨e0, e1, e2, e3, e4, e5, f0, f1, f2, f3, f4, f5, el⟩ := ev_open h.ev; obtain ⟨l0, l1, l2⟩ := pz_lb h; have p2 := h.piece HZ2.out; have p3 := h.piece HZ3.out; have p4 := h.piece HZ4.out
        intro K Q hK
        simp only [putE, updAll, Act.put, List.setIfInBounds_toArray, List.set_cons_zero, List.set_cons_succ, List.set_nil] at hK ⊢
        go_wp2_with (fail)
        all_goals (first | exact hK _ (by first | exact h | exact h.step (by repeat' (first | exact Below.refl _ _ | apply bDrewN | apply bDrew))) | exact (by first | exact h | exact h.step (by repeat' (first | exact Below.refl _ _ | apply bDrewN | apply bDrew))))
      · refine Or.inr ⟨rfl, ?_⟩
        intro bsE vsE W hlb hlv hnd hbk h
        obtain ⟨b0, bsE0, rfl, hlb0⟩ := len_one hlb
        obtain ⟨v0, vsE0, rfl, hlv0⟩ := len_one hlv
        obtain ⟨b1, bsE1, rfl, hlb1⟩ := len_one hlb0
        obtain ⟨v1, vsE1, rfl, hlv1⟩ := len_one hlv0
        obtain rfl := len_nil hlb1
        obtain rfl := len_nil hlv1
        obtain rfl : b1 = false := hbk
        replace h : PZ w (KP w g (ts.length + 5) c) g c bx (ts ++ em5) #[(bif b0 then (.int .i64 (8)) else (.int .i64 (0))), (.int .i64 (pvS z1.data.toList)), (.int .i64 (0)), (.int .i64 (0)), (bif false then (.string z2) else (.string ⟨#[]⟩)), (.string ⟨#[]⟩)] W := h
        clear hnd
        have HST := Lib.hid h
        obtain ⟨e0, e1, e2, e3, e4, e5, f0, f1, f2, f3, f4, f5, el⟩ := ev_open h.ev; obtain ⟨l0, l1, l2⟩ := pz_lb h; have p2 := h.piece HZ2.out; have p3 := h.piece HZ3.out; have p4 := h.piece HZ4.out
        intro K Q hK
        simp only [putE, updAll, Act.put, List.setIfInBounds_toArray, List.set_cons_zero, List.set_cons_succ, List.set_nil] at hK ⊢
        go_wp2_with fail
        all_goals (first | exact hK _ (h.set4 _) | exact h.set4 _)
    case done =>
      intro vsE W hlv h
      obtain ⟨v0, vsE0, rfl, hlv0⟩ := len_one hlv
      obtain ⟨v1, vsE1, rfl, hlv1⟩ := len_one hlv0
      obtain rfl := len_nil hlv1
      replace h : PZ w (KP w g (ts.length + 5) c) g c bx (ts ++ em5) #[(bif true then (.int .i64 (8)) else (.int .i64 (0))), (.int .i64 (pvS z1.data.toList)), (.int .i64 (0)), (.int .i64 (0)), (bif true then (.string z2) else (.string ⟨#[]⟩)), (.string ⟨#[]⟩)] W := h
      have HST := Lib.hid h
      have P5 : Hid (PZ w (KP w g (ts.length + 5) c) g c bx (ts ++ em5) #[(.int .i64 (8)), (.int .i64 (pvS z1.data.toList)), (.int .i64 (0)), (.int .i64 (0)), (.string z2), (.string ⟨#[]⟩)] W) := h
      clear h HST P2 l0 l1 l2 e0 e1 e2 e3 e4 e5 f0 f1 f2 f3 f4 f5 el
      simp only [putE, updAll, Act.put, List.setIfInBounds_toArray, List.set_cons_zero, List.set_cons_succ, List.set_nil]
      go_upto_region 25 with fail
      have HT := HPAR.out 8 (pvS z1.data.toList) (0) (0) z2 ⟨#[]⟩ (by simp [mkE, HKK.out, word])
      have CT := Lib.hid (fun W hG => PText_any 8 (pvS z1.data.toList) (0) (0) z2 ⟨#[]⟩ W hG HZs2.out (by decide))
      clear HPAR HKK
      rcases HT with ⟨q1, q2⟩ | ⟨x, q1, q3, q2⟩ | ⟨q1, q2⟩
      · rw [q1] at CT
        dsimp only at CT
        have HQ := Lib.hid q2
        clear q1 q2
        have E1 := ev_open P5.out.ev
        obtain ⟨e0, e1, e2, e3, e4, e5, f0, f1, f2, f3, f4, f5, el⟩ := E1
        go_wp2_with (go_at_call 8; refine (CT.out _ (gstep HG.out P5.out.bel)).mono ?_; rintro e w9 ⟨rfl, hb9⟩; have P9 := Lib.hid (P5.out.step hb9); clear P5 hb9 e0 e1 e2 e3 e4 e5 f0 f1 f2 f3 f4 f5 el; obtain ⟨e0, e1, e2, e3, e4, e5, f0, f1, f2, f3, f4, f5, el⟩ := ev_open P9.out.ev; obtain ⟨r0, r1, r2, r3, r4, r5, t0, t1, t2, t3, t4, t5, rl⟩ := ev_open (x0 := .int .i64 0) (x1 := .int .i64 0) (x2 := .int .i64 0) (x3 := .int .i64 0) (x4 := .string ⟨#[]⟩) (x5 := .string ⟨#[]⟩) (pz_res P9.out))
        exact bodyPost_ret (v := .tuple #[.agg #[(.int .i64 (8)), (.int .i64 (pvS z1.data.toList)), (.int .i64 (0)), (.int .i64 (0)), (.string z2), (.string ⟨#[]⟩)], .int .i64 0]) (res_cell Tryz.results10 rfl (ev_load (ev_put (pz_res P9.out))) rfl) rfl ⟨by rw [HQ.out], ev_bel P9.out.bel (Nat.le_refl _)⟩
      · rw [q1] at CT
        dsimp only at CT
        have HQ := Lib.hid q2
        clear q1 q2
        have d1 := ba_nl q3
        have d2 : (x.toList == s.toList) = false := by simpa using d1
        clear q3
        have E1 := ev_open P5.out.ev
        obtain ⟨e0, e1, e2, e3, e4, e5, f0, f1, f2, f3, f4, f5, el⟩ := E1
        go_wp2_with (go_at_call 8; refine (CT.out _ (gstep HG.out P5.out.bel)).mono ?_; rintro e w9 ⟨rfl, hb9⟩; have P9 := Lib.hid (P5.out.step hb9); clear P5 hb9 e0 e1 e2 e3 e4 e5 f0 f1 f2 f3 f4 f5 el; obtain ⟨e0, e1, e2, e3, e4, e5, f0, f1, f2, f3, f4, f5, el⟩ := ev_open P9.out.ev; obtain ⟨r0, r1, r2, r3, r4, r5, t0, t1, t2, t3, t4, t5, rl⟩ := ev_open (x0 := .int .i64 0) (x1 := .int .i64 0) (x2 := .int .i64 0) (x3 := .int .i64 0) (x4 := .string ⟨#[]⟩) (x5 := .string ⟨#[]⟩) (pz_res P9.out))
        exact bodyPost_ret (v := zV) (res_cell Tryz.results10 rfl (ev_load (ev_put (pz_res P9.out))) rfl) rfl ⟨by rw [HQ.out], ev_bel P9.out.bel (Nat.le_refl _)⟩
      · rw [q1] at CT
        dsimp only at CT
        have HQ := Lib.hid q2
        clear q1 q2
        have E1 := ev_open P5.out.ev
        obtain ⟨e0, e1, e2, e3, e4, e5, f0, f1, f2, f3, f4, f5, el⟩ := E1
        go_wp2_with (go_at_call 8; refine (CT.out _ (gstep HG.out P5.out.bel)).mono ?_; rintro e w9 ⟨rfl, hb9⟩; have P9 := Lib.hid (P5.out.step hb9); clear P5 hb9 e0 e1 e2 e3 e4 e5 f0 f1 f2 f3 f4 f5 el; obtain ⟨e0, e1, e2, e3, e4, e5, f0, f1, f2, f3, f4, f5, el⟩ := ev_open P9.out.ev; obtain ⟨r0, r1, r2, r3, r4, r5, t0, t1, t2, t3, t4, t5, rl⟩ := ev_open (x0 := .int .i64 0) (x1 := .int .i64 0) (x2 := .int .i64 0) (x3 := .int .i64 0) (x4 := .string ⟨#[]⟩) (x5 := .string ⟨#[]⟩) (pz_res P9.out))
        exact bodyPost_ret (v := zV) (res_cell Tryz.results10 rfl (ev_load (ev_put (pz_res P9.out))) rfl) rfl ⟨by rw [HQ.out], ev_bel P9.out.bel (Nat.le_refl _)⟩
  by_cases c9 : z0.data.toList = [115, 99, 114, 97, 112]
  · have b1 := z_ne (z := z0) (l := [109, 97, 100, 101]) c1
    have b2 := z_ne (z := z0) (l := [117, 115, 101]) c2
    have b3 := z_ne (z := z0) (l := [116, 101, 115, 116]) c3
    have b4 := z_ne (z := z0) (l := [102, 97, 117, 108, 116]) c4
    have b5 := z_ne (z := z0) (l := [112, 117, 116]) c5
    have b6 := z_ne (z := z0) (l := [116, 97, 107, 101]) c6
    have b7 := z_ne (z := z0) (l := [114, 101, 99, 97, 108, 108]) c7
    have b8 := z_ne (z := z0) (l := [99, 108, 101, 97, 114]) c8
    have b9 := z_eq (z := z0) (l := [115, 99, 114, 97, 112]) c9
    have HKK : Hid (z0.data.toList = word 9) := c9
    clear c1 c2 c3 c4 c5 c6 c7 c8 c9
    simp only [b1]
    go_upto_region 25 with fail
    have P5 := Lib.hid (P2.out.set0 (.int .i64 (9)))
    generalize (W2.setCell ⟨bx, 0, none⟩ (.int .i64 (9))) = W5 at *
    clear P2 l0 l1 l2 e0 e1 e2 e3 e4 e5 f0 f1 f2 f3 f4 f5 el
    have HT := HPAR.out 9 (pvS z1.data.toList) (0) (0) ⟨#[]⟩ ⟨#[]⟩ (by simp [mkE, HKK.out, word])
    have CT := Lib.hid (fun W hG => PText_any 9 (pvS z1.data.toList) (0) (0) ⟨#[]⟩ ⟨#[]⟩ W hG (by decide) (by decide))
    clear HPAR HKK
    rcases HT with ⟨q1, q2⟩ | ⟨x, q1, q3, q2⟩ | ⟨q1, q2⟩
    · rw [q1] at CT
      dsimp only at CT
      have HQ := Lib.hid q2
      clear q1 q2
      have E1 := ev_open P5.out.ev
      obtain ⟨e0, e1, e2, e3, e4, e5, f0, f1, f2, f3, f4, f5, el⟩ := E1
      go_wp2_with (go_at_call 8; refine (CT.out _ (gstep HG.out P5.out.bel)).mono ?_; rintro e w9 ⟨rfl, hb9⟩; have P9 := Lib.hid (P5.out.step hb9); clear P5 hb9 e0 e1 e2 e3 e4 e5 f0 f1 f2 f3 f4 f5 el; obtain ⟨e0, e1, e2, e3, e4, e5, f0, f1, f2, f3, f4, f5, el⟩ := ev_open P9.out.ev; obtain ⟨r0, r1, r2, r3, r4, r5, t0, t1, t2, t3, t4, t5, rl⟩ := ev_open (x0 := .int .i64 0) (x1 := .int .i64 0) (x2 := .int .i64 0) (x3 := .int .i64 0) (x4 := .string ⟨#[]⟩) (x5 := .string ⟨#[]⟩) (pz_res P9.out))
      exact bodyPost_ret (v := .tuple #[.agg #[(.int .i64 (9)), (.int .i64 (pvS z1.data.toList)), (.int .i64 (0)), (.int .i64 (0)), (.string ⟨#[]⟩), (.string ⟨#[]⟩)], .int .i64 0]) (res_cell Tryz.results10 rfl (ev_load (ev_put (pz_res P9.out))) rfl) rfl ⟨by rw [HQ.out], ev_bel P9.out.bel (Nat.le_refl _)⟩
    · rw [q1] at CT
      dsimp only at CT
      have HQ := Lib.hid q2
      clear q1 q2
      have d1 := ba_nl q3
      have d2 : (x.toList == s.toList) = false := by simpa using d1
      clear q3
      have E1 := ev_open P5.out.ev
      obtain ⟨e0, e1, e2, e3, e4, e5, f0, f1, f2, f3, f4, f5, el⟩ := E1
      go_wp2_with (go_at_call 8; refine (CT.out _ (gstep HG.out P5.out.bel)).mono ?_; rintro e w9 ⟨rfl, hb9⟩; have P9 := Lib.hid (P5.out.step hb9); clear P5 hb9 e0 e1 e2 e3 e4 e5 f0 f1 f2 f3 f4 f5 el; obtain ⟨e0, e1, e2, e3, e4, e5, f0, f1, f2, f3, f4, f5, el⟩ := ev_open P9.out.ev; obtain ⟨r0, r1, r2, r3, r4, r5, t0, t1, t2, t3, t4, t5, rl⟩ := ev_open (x0 := .int .i64 0) (x1 := .int .i64 0) (x2 := .int .i64 0) (x3 := .int .i64 0) (x4 := .string ⟨#[]⟩) (x5 := .string ⟨#[]⟩) (pz_res P9.out))
      exact bodyPost_ret (v := zV) (res_cell Tryz.results10 rfl (ev_load (ev_put (pz_res P9.out))) rfl) rfl ⟨by rw [HQ.out], ev_bel P9.out.bel (Nat.le_refl _)⟩
    · rw [q1] at CT
      dsimp only at CT
      have HQ := Lib.hid q2
      clear q1 q2
      have E1 := ev_open P5.out.ev
      obtain ⟨e0, e1, e2, e3, e4, e5, f0, f1, f2, f3, f4, f5, el⟩ := E1
      go_wp2_with (go_at_call 8; refine (CT.out _ (gstep HG.out P5.out.bel)).mono ?_; rintro e w9 ⟨rfl, hb9⟩; have P9 := Lib.hid (P5.out.step hb9); clear P5 hb9 e0 e1 e2 e3 e4 e5 f0 f1 f2 f3 f4 f5 el; obtain ⟨e0, e1, e2, e3, e4, e5, f0, f1, f2, f3, f4, f5, el⟩ := ev_open P9.out.ev; obtain ⟨r0, r1, r2, r3, r4, r5, t0, t1, t2, t3, t4, t5, rl⟩ := ev_open (x0 := .int .i64 0) (x1 := .int .i64 0) (x2 := .int .i64 0) (x3 := .int .i64 0) (x4 := .string ⟨#[]⟩) (x5 := .string ⟨#[]⟩) (pz_res P9.out))
      exact bodyPost_ret (v := zV) (res_cell Tryz.results10 rfl (ev_load (ev_put (pz_res P9.out))) rfl) rfl ⟨by rw [HQ.out], ev_bel P9.out.bel (Nat.le_refl _)⟩
  have b1 := z_ne (z := z0) (l := [109, 97, 100, 101]) c1
  have b2 := z_ne (z := z0) (l := [117, 115, 101]) c2
  have b3 := z_ne (z := z0) (l := [116, 101, 115, 116]) c3
  have b4 := z_ne (z := z0) (l := [102, 97, 117, 108, 116]) c4
  have b5 := z_ne (z := z0) (l := [112, 117, 116]) c5
  have b6 := z_ne (z := z0) (l := [116, 97, 107, 101]) c6
  have b7 := z_ne (z := z0) (l := [114, 101, 99, 97, 108, 108]) c7
  have b8 := z_ne (z := z0) (l := [99, 108, 101, 97, 114]) c8
  have b9 := z_ne (z := z0) (l := [115, 99, 114, 97, 112]) c9
  have HKK : Hid (z0.data.toList ≠ word 1 ∧ z0.data.toList ≠ word 2 ∧ z0.data.toList ≠ word 3 ∧ z0.data.toList ≠ word 4 ∧ z0.data.toList ≠ word 5 ∧ z0.data.toList ≠ word 6 ∧ z0.data.toList ≠ word 7 ∧ z0.data.toList ≠ word 8 ∧ z0.data.toList ≠ word 9) := ⟨c1, c2, c3, c4, c5, c6, c7, c8, c9⟩
  clear c1 c2 c3 c4 c5 c6 c7 c8 c9
  simp only [b1]
  go_upto_region 25 with fail
  have P5 := P2
  clear P2 l0 l1 l2 e0 e1 e2 e3 e4 e5 f0 f1 f2 f3 f4 f5 el
  have HT := HPAR.out 0 (pvS z1.data.toList) (0) (0) ⟨#[]⟩ ⟨#[]⟩ (by simp [mkE, HKK.out.1, HKK.out.2.1, HKK.out.2.2.1, HKK.out.2.2.2.1, HKK.out.2.2.2.2.1, HKK.out.2.2.2.2.2.1, HKK.out.2.2.2.2.2.2.1, HKK.out.2.2.2.2.2.2.2.1, HKK.out.2.2.2.2.2.2.2.2])
  have CT := Lib.hid (fun W hG => PText_any 0 (pvS z1.data.toList) (0) (0) ⟨#[]⟩ ⟨#[]⟩ W hG (by decide) (by decide))
  clear HPAR HKK
  rcases HT with ⟨q1, q2⟩ | ⟨x, q1, q3, q2⟩ | ⟨q1, q2⟩
  · rw [q1] at CT
    dsimp only at CT
    have HQ := Lib.hid q2
    clear q1 q2
    have E1 := ev_open P5.out.ev
    obtain ⟨e0, e1, e2, e3, e4, e5, f0, f1, f2, f3, f4, f5, el⟩ := E1
    go_wp2_with (go_at_call 8; refine (CT.out _ (gstep HG.out P5.out.bel)).mono ?_; rintro e w9 ⟨rfl, hb9⟩; have P9 := Lib.hid (P5.out.step hb9); clear P5 hb9 e0 e1 e2 e3 e4 e5 f0 f1 f2 f3 f4 f5 el; obtain ⟨e0, e1, e2, e3, e4, e5, f0, f1, f2, f3, f4, f5, el⟩ := ev_open P9.out.ev; obtain ⟨r0, r1, r2, r3, r4, r5, t0, t1, t2, t3, t4, t5, rl⟩ := ev_open (x0 := .int .i64 0) (x1 := .int .i64 0) (x2 := .int .i64 0) (x3 := .int .i64 0) (x4 := .string ⟨#[]⟩) (x5 := .string ⟨#[]⟩) (pz_res P9.out))
    exact bodyPost_ret (v := .tuple #[.agg #[(.int .i64 (0)), (.int .i64 (pvS z1.data.toList)), (.int .i64 (0)), (.int .i64 (0)), (.string ⟨#[]⟩), (.string ⟨#[]⟩)], .int .i64 0]) (res_cell Tryz.results10 rfl (ev_load (ev_put (pz_res P9.out))) rfl) rfl ⟨by rw [HQ.out], ev_bel P9.out.bel (Nat.le_refl _)⟩
  · rw [q1] at CT
    dsimp only at CT
    have HQ := Lib.hid q2
    clear q1 q2
    have d1 := ba_nl q3
    have d2 : (x.toList == s.toList) = false := by simpa using d1
    clear q3
    have E1 := ev_open P5.out.ev
    obtain ⟨e0, e1, e2, e3, e4, e5, f0, f1, f2, f3, f4, f5, el⟩ := E1
    go_wp2_with (go_at_call 8; refine (CT.out _ (gstep HG.out P5.out.bel)).mono ?_; rintro e w9 ⟨rfl, hb9⟩; have P9 := Lib.hid (P5.out.step hb9); clear P5 hb9 e0 e1 e2 e3 e4 e5 f0 f1 f2 f3 f4 f5 el; obtain ⟨e0, e1, e2, e3, e4, e5, f0, f1, f2, f3, f4, f5, el⟩ := ev_open P9.out.ev; obtain ⟨r0, r1, r2, r3, r4, r5, t0, t1, t2, t3, t4, t5, rl⟩ := ev_open (x0 := .int .i64 0) (x1 := .int .i64 0) (x2 := .int .i64 0) (x3 := .int .i64 0) (x4 := .string ⟨#[]⟩) (x5 := .string ⟨#[]⟩) (pz_res P9.out))
    exact bodyPost_ret (v := zV) (res_cell Tryz.results10 rfl (ev_load (ev_put (pz_res P9.out))) rfl) rfl ⟨by rw [HQ.out], ev_bel P9.out.bel (Nat.le_refl _)⟩
  · rw [q1] at CT
    dsimp only at CT
    have HQ := Lib.hid q2
    clear q1 q2
    have E1 := ev_open P5.out.ev
    obtain ⟨e0, e1, e2, e3, e4, e5, f0, f1, f2, f3, f4, f5, el⟩ := E1
    go_wp2_with (go_at_call 8; refine (CT.out _ (gstep HG.out P5.out.bel)).mono ?_; rintro e w9 ⟨rfl, hb9⟩; have P9 := Lib.hid (P5.out.step hb9); clear P5 hb9 e0 e1 e2 e3 e4 e5 f0 f1 f2 f3 f4 f5 el; obtain ⟨e0, e1, e2, e3, e4, e5, f0, f1, f2, f3, f4, f5, el⟩ := ev_open P9.out.ev; obtain ⟨r0, r1, r2, r3, r4, r5, t0, t1, t2, t3, t4, t5, rl⟩ := ev_open (x0 := .int .i64 0) (x1 := .int .i64 0) (x2 := .int .i64 0) (x3 := .int .i64 0) (x4 := .string ⟨#[]⟩) (x5 := .string ⟨#[]⟩) (pz_res P9.out))
    exact bodyPost_ret (v := zV) (res_cell Tryz.results10 rfl (ev_load (ev_put (pz_res P9.out))) rfl) rfl ⟨by rw [HQ.out], ev_bel P9.out.bel (Nat.le_refl _)⟩
end Go.Proofs.YtdelgbdiofkndaaGreatDoor
