/-
 The reference's Verify.
-/
import Derived.Test.YtmpilgkfbibhlaaGreatDoorG23Verifies
import Derived.Test.YtmpilgkfbibhlaaGreatDoorG24Verifies
import Derived.Test.YtmpilgkfbibhlaaGreatDoorG26Verifies
set_option linter.unusedSimpArgs false
set_option linter.unusedVariables false
namespace Go.Proofs.YtmpilgkfbibhlaaGreatDoor
open Sx Go.RowKit Mr
theorem evAt_own {W : World} {B : Nat} {v : Value} {h : List Evt} {n : Nat} (hn : n = h.length) (ho : W.ownsRow B 29 6 v n (flatE h)) : ∃ a c, v = .slice a h.length c ∧ EvAt a h W := by
 subst hn
 obtain ⟨h1, h2⟩ := ho
 rcases h2 with ⟨h2, h3⟩ | ⟨g, cap, cur, q1, q2, q3, q4, q5, q6, q7⟩
 ·exact ⟨none, 0, by rw [h2, h3], fun hn => absurd (List.length_eq_zero_iff.1 h3) hn⟩
 ·refine ⟨_, cap, q1, fun _ => ⟨g, 0, rfl, blk_lt q3, fun k e hk j u hj => ?_⟩⟩
  have h5 := flatE_at hk hj
  have hlt := (List.getElem?_eq_some_iff.1 h5).1
  rw [flatE_len] at hlt
  rw [← q7, List.getElem?_take_of_lt hlt] at h5
  exact blk_cell q3 (by rw [Nat.zero_add]; simpa using h5)
theorem EntAt.take {a : Option Addr} {es : List Ent} {W : World} (h : EntAt a es W) (i : Nat) : EntAt a (es.take i) W := by
 intro hn
 obtain ⟨b, off, e1, e2, e3⟩ := h (by rintro rfl; simp at hn)
 refine ⟨b, off, e1, e2, fun k y hk j u hj => e3 k y ?_ j u hj⟩
 rw [List.getElem?_take] at hk
 split at hk
 ·exact hk
 ·cases hk
structure EvS (w1 : World) (he : List Evt) (b0 : Bool) (v0 : Value) (W : World) : Prop where
 bel : Below w1.heap.size w1 W
 o0 : b0 = true → ∃ a c, v0 = .slice a he.length c ∧ EvAt a he W
theorem few_ok {h : List Evt} (hok : ∀ e ∈ h, okX e = true) : Few h := fun e he h1 => by
 obtain ⟨k, t, a, b, nm, ot⟩ := e
 dsimp only at h1
 subst h1
 exact (made_b (hok _ he)).2
set_option maxHeartbeats 8000000 in
set_option maxRecDepth 20000 in
theorem RVerify_1 {a ab : Option Addr} {es : List Ent} {bks : List Bk} {w : World} (pt c cb : Nat) (name : ByteArray) (hE : EntAt a es w) (hB : BksAt ab bks w) (hG : Glob0 w)
  (hes : es.length ≤ 1000000 ∧ ∀ y ∈ es, y.1.2.2.2.2.1.size ≤ 100 ∧ y.1.2.2.2.2.2.size ≤ 100) (hbl : bks.length ≤ 1000000 ∧ ∀ bk ∈ bks, bk.2.length ≤ 1000000) (hnm : name.size ≤ 1000) (hcap : es.length ≤ c) (hhd : ∀ y ∈ es, y.2.2.2.1 < 18446744073709551616) (h1 : secR pt bks ≠ 0) :
  Calls Tryz.prog 13 #[.int .u64 (pt : Int), .slice ab bks.length cb, .string name, .slice a es.length c] w fun e w' => e = .returned (verV (verR pt bks name es)) ∧ Below w.heap.size w w' := by
 have CS := Lib.hid (RSecrets_any pt cb hB hbl)
 rw [verR_1 h1]
 unfold verV
 have hr : (secR pt bks == 0) = false := by simpa using h1
 generalize secR pt bks = r at *
 clear h1
 clear hE hB hG hes hbl hnm hcap hhd
 go_enter Tryz.func13, Tryz.ntmps13
 go_wp2_with (go_at_call 47; refine CS.out.mono ?_; rintro e w1 ⟨rfl, hb1⟩)
 exact bodyPost_ret (v := .tuple #[.int .i64 0, .bool false, .int .i64 r]) (by simp only [results, Tryz.results13]; go_simp) rfl ⟨rfl, hb1⟩
set_option maxHeartbeats 8000000 in
set_option maxRecDepth 20000 in
theorem RVerify_2 {a ab : Option Addr} {es : List Ent} {bks : List Bk} {w : World} (pt c cb : Nat) (name : ByteArray) (hE : EntAt a es w) (hB : BksAt ab bks w) (hG : Glob0 w)
  (hes : es.length ≤ 1000000 ∧ ∀ y ∈ es, y.1.2.2.2.2.1.size ≤ 100 ∧ y.1.2.2.2.2.2.size ≤ 100) (hbl : bks.length ≤ 1000000 ∧ ∀ bk ∈ bks, bk.2.length ≤ 1000000) (hnm : name.size ≤ 1000) (hcap : es.length ≤ c) (hhd : ∀ y ∈ es, y.2.2.2.1 < 18446744073709551616) (h1 : secR pt bks = 0) (h2 : nameB name = false) :
  Calls Tryz.prog 13 #[.int .u64 (pt : Int), .slice ab bks.length cb, .string name, .slice a es.length c] w fun e w' => e = .returned (verV (verR pt bks name es)) ∧ Below w.heap.size w w' := by
 have CS := Lib.hid (RSecrets_any pt cb hB hbl)
 have CN := Lib.hid (fun W => RName_any name W)
 rw [verR_2 h1 h2]
 unfold verV
 rw [h1] at CS
 rw [h2] at CN
 clear h1 h2
 clear hE hB hG hes hbl hnm hcap hhd
 go_enter Tryz.func13, Tryz.ntmps13
 go_wp2_with (first | (go_at_call 47; refine CS.out.mono ?_; rintro e w1 ⟨rfl, hb1⟩) | (go_at_call 48; refine (CN.out _).mono ?_; rintro e w2 ⟨rfl, hb2⟩))
 exact bodyPost_ret (v := .tuple #[.int .i64 0, .bool false, .int .i64 2]) (by simp only [results, Tryz.results13]; go_simp) rfl ⟨rfl, bStep hb1 hb2⟩
set_option maxHeartbeats 8000000 in
set_option maxRecDepth 20000 in
theorem RVerify_3 {a ab : Option Addr} {es : List Ent} {bks : List Bk} {w : World} (pt c cb : Nat) (name : ByteArray) (hE : EntAt a es w) (hB : BksAt ab bks w) (hG : Glob0 w)
  (hes : es.length ≤ 1000000 ∧ ∀ y ∈ es, y.1.2.2.2.2.1.size ≤ 100 ∧ y.1.2.2.2.2.2.size ≤ 100) (hbl : bks.length ≤ 1000000 ∧ ∀ bk ∈ bks, bk.2.length ≤ 1000000) (hnm : name.size ≤ 1000) (hcap : es.length ≤ c) (hhd : ∀ y ∈ es, y.2.2.2.1 < 18446744073709551616) (h1 : secR pt bks = 0) (h2 : nameB name = true) (h3 : 500 < es.length) :
  Calls Tryz.prog 13 #[.int .u64 (pt : Int), .slice ab bks.length cb, .string name, .slice a es.length c] w fun e w' => e = .returned (verV (verR pt bks name es)) ∧ Below w.heap.size w w' := by
 have CS := Lib.hid (RSecrets_any pt cb hB hbl)
 have CN := Lib.hid (fun W => RName_any name W)
 rw [verR_3 h1 h2 h3]
 unfold verV
 rw [h1] at CS
 rw [h2] at CN
 have h4 : (500 : Int) < es.length := by omega
 clear h1 h2 h3
 clear hE hB hG hes hbl hnm hcap hhd
 go_enter Tryz.func13, Tryz.ntmps13
 go_wp2_with (first | (go_at_call 47; refine CS.out.mono ?_; rintro e w1 ⟨rfl, hb1⟩) | (go_at_call 48; refine (CN.out _).mono ?_; rintro e w2 ⟨rfl, hb2⟩))
 exact bodyPost_ret (v := .tuple #[.int .i64 0, .bool false, .int .i64 6]) (by simp only [results, Tryz.results13]; go_simp) rfl ⟨rfl, bStep hb1 hb2⟩
set_option maxHeartbeats 8000000 in
set_option maxRecDepth 20000 in
theorem RVerify_4 {a ab : Option Addr} {es : List Ent} {bks : List Bk} {w : World} (pt c cb : Nat) (name : ByteArray) (hE : EntAt a es w) (hB : BksAt ab bks w) (hG : Glob0 w)
  (hes : es.length ≤ 1000000 ∧ ∀ y ∈ es, y.1.2.2.2.2.1.size ≤ 100 ∧ y.1.2.2.2.2.2.size ≤ 100) (hbl : bks.length ≤ 1000000 ∧ ∀ bk ∈ bks, bk.2.length ≤ 1000000) (hnm : name.size ≤ 1000) (hcap : es.length ≤ c) (hhd : ∀ y ∈ es, y.2.2.2.1 < 18446744073709551616) (h1 : secR pt bks = 0) (h2 : nameB name = true) (h3 : ¬ 500 < es.length) :
  Calls Tryz.prog 13 #[.int .u64 (pt : Int), .slice ab bks.length cb, .string name, .slice a es.length c] w fun e w' => e = .returned (verV (verR pt bks name es)) ∧ Below w.heap.size w w' := by
 have CS := Lib.hid (RSecrets_any pt cb hB hbl)
 have CN := Lib.hid (fun W => RName_any name W)
 obtain ⟨hb0, hb8, hbk⟩ := secR_ok h1
 obtain ⟨bb, ob, rfl, hbb, hbc⟩ := hB (by rintro rfl; simp at hb8)
 have HBC := Lib.hid hbc
 clear hbc
 rw [verR_4 h1 h2 h3]
 unfold verV
 rw [h1] at CS
 rw [h2] at CN
 have h4 : ¬ (500 : Int) < es.length := by omega
 have HE := Lib.hid hE
 have HB := Lib.hid hB
 have HG := Lib.hid hG
 have HS := Lib.hid (And.intro hes (And.intro hb0 (And.intro hb8 hbk)))
 have HN := Lib.hid (And.intro hnm (And.intro h3 (And.intro hcap hhd)))
 have hcp : es.length ≤ c := hcap
 obtain ⟨lb, hlb⟩ : ∃ lb, bks.length = lb + 1 := ⟨bks.length - 1, by omega⟩
 have HLB := Lib.hid hlb
 clear hE hB hG hes hbl hnm h1 h2 h3 hb0 hb8 hbk hcap hhd hlb
 go_enter Tryz.func13, Tryz.ntmps13
 go_upto_region 8 with (first | (go_at_call 47; refine CS.out.mono ?_; rintro e w1 ⟨rfl, hb1⟩) | (go_at_call 48; refine (CN.out _).mono ?_; rintro e w2 ⟨rfl, hb2⟩))
 clear h4
 have HW2 := Lib.hid (bStep hb1 hb2)
 clear hb1 hb2 CS CN
 go_wp2_with fail
 go_loopw [12, 13, 14] (fun ix _ _ wr => ∃ i : Nat, i ≤ es.length ∧ ix = .int .i64 i ∧ Hid (AllR pt bks name es i) ∧ Hid (Below w.heap.size w wr)) (fun ix _ _ _ => es.length - (intOf ix).toNat)
 case atStart => exact ⟨0, by omega, rfl, AllR.zero, HW2⟩
 case round =>
  clear HW2
  obtain ⟨i, hi, rfl, HR, HV⟩ := hrel
  by_cases hc : i < es.length
  ·have c1 : (i : Int) < es.length := by omega
   have c0 : (0 : Int) ≤ i := by omega
   have c2 : i ≤ c := by omega
   have c3 : (i : Int) ≤ c := by omega
   obtain ⟨y, hk⟩ : ∃ y, es[i]? = some y := ⟨es[i], List.getElem?_eq_getElem hc⟩
   obtain ⟨b, off, rfl, hb0, hcs⟩ := HE.out (by rintro rfl; simp at hc)
   have HK := Lib.hid hk
   have HSZ := Lib.hid (HS.out.1.2 y (List.mem_of_getElem? hk))
   have HYC : Hid (∀ j u, (entC y)[j]? = some u → wr.cell? ⟨b, off + i * 10 + j, none⟩ = some u) := fun j u hj => cell_step (hcs i y hk j u hj) HV.out
   have hlb2 : b < wr.heap.size := Nat.lt_of_lt_of_le hb0 HV.out.size
   have HEB := Lib.hid (entBox wr y)
   have HET := Lib.hid (ent_there wr)
   unfold zeroE at HEB HET
   obtain ⟨⟨k, t, a1, b1, nm, ot⟩, by_, pad, head, tag⟩ := y
   have HCS := Lib.hid hcs
   clear hcs hc hb0 hk
   go_upto_region 12 with (first | (refine wpList_load_mid rfl 31 (.tmp 35) rfl b (off + i * 10) rfl (entC ((k, t, a1, b1, nm, ot), by_, pad, head, tag)) _ HYC.out Tryz.underlying31 rfl ent_size ?_) | (refine wpList_store_mid rfl 31 (.tmp 13) (.tmp 36) rfl wr.heap.size 0 (entC ((k, t, a1, b1, nm, ot), by_, pad, head, tag)).toArray rfl rfl HET.out ent_size (entC_one _) ?_))
   generalize (World.setCells _ wr.heap.size 0 _) = w1 at *
   have HB1 := Lib.hid (bStep HV.out HEB.out.2)
   have HEX := Lib.hid HEB.out.1
   clear HV HEB HET hlb2 HYC
   generalize wr.heap.size = P at *
   have HLG := Lib.hid (HR.out.leg (by omega))
   have CK := Lib.hid (fun (W : World) (hW : Below w1.heap.size w1 W) => RCheck_any k t a1 b1 nm ot W (gstep HG.out (bStep HB1.out hW)) (Nat.le_trans HSZ.out.1 (by decide)) (Nat.le_trans HSZ.out.2 (by decide)))
   have hne : ¬ i = es.length := by omega
   have HNE := Lib.hid hne
   have HST0 := Lib.hid (fun hr => HR.out.stop HK.out hr)
   clear hne
   cases hok : okX (k, t, a1, b1, nm, ot)
   ·have HF := Lib.hid (HST0.out (rt_1 hok))
    rw [show okE k t a1 b1 nm ot = false from hok] at CK
    simp only [cond_false] at CK
    have u0 : ∀ s : WStep w1, s.1.cell? ⟨P, 0, none⟩ = some (.int .i64 k) := fun s => cell_step (blk_cell HEX.out rfl) s.2
    have u1 : ∀ s : WStep w1, s.1.cell? ⟨P, 1, none⟩ = some (.int .i64 t) := fun s => cell_step (blk_cell HEX.out rfl) s.2
    have u2 : ∀ s : WStep w1, s.1.cell? ⟨P, 2, none⟩ = some (.int .i64 a1) := fun s => cell_step (blk_cell HEX.out rfl) s.2
    have u3 : ∀ s : WStep w1, s.1.cell? ⟨P, 3, none⟩ = some (.int .i64 b1) := fun s => cell_step (blk_cell HEX.out rfl) s.2
    have u4 : ∀ s : WStep w1, s.1.cell? ⟨P, 4, none⟩ = some (.string nm) := fun s => cell_step (blk_cell HEX.out rfl) s.2
    have u5 : ∀ s : WStep w1, s.1.cell? ⟨P, 5, none⟩ = some (.string ot) := fun s => cell_step (blk_cell HEX.out rfl) s.2
    have CQ := Lib.hid (fun s : WStep w1 => step_call s (CK.out s.1 s.2))
    clear hok CK
    refine wp_region_lock (by kernel_rfl) (by kernel_rfl) ?_
    repeat (first | (refine WQ.skip rfl rfl rfl rfl ?_; simp only [Act.put, List.setIfInBounds_toArray, List.set_cons_zero, List.set_cons_succ, List.set_nil]) | ((first | (apply WQ.val; (exact rfl)) | (apply WQ.valg; (exact rfl); (exact rfl); (exact rfl))); (intro w9 hw9; obtain ⟨s9, rfl⟩ := hw9; simp [go_sem, u0, u1, u2, u3, u4, u5]; first | done | exact rfl | (with_reducible exact CQ.out s9)); simp only [Act.put, List.setIfInBounds_toArray, List.set_cons_zero, List.set_cons_succ, List.set_nil]))
    refine WQ.fin fun W4 hW4 => ?_
    go_wp2_with fail
    exact bodyPost_ret (v := .tuple #[.int .i64 (i : Int), .bool false, .int .i64 0]) (by simp only [results, Tryz.results13]; go_simp) rfl ⟨by rw [HF.out, decide_eq_false HNE.out], bStep HB1.out hW4⟩
   ·rw [show okE k t a1 b1 nm ot = true from hok] at CK
    simp only [cond_true] at CK
    have HOK := Lib.hid hok
    clear hok
    obtain ⟨he, hhe⟩ : ∃ he, evsOf (es.take i) = he := ⟨_, rfl⟩
    have hel : he.length = i := by rw [← hhe]; unfold evsOf; rw [List.length_map, List.length_take]; omega
    have HHE := Lib.hid hhe
    have CE : Hid (∀ W, Below w1.heap.size w1 W → Calls Tryz.prog 51 #[.slice (some ⟨b, off, none⟩) i c] W fun en w' => ∃ v, en = .returned v ∧ (∃ a c, v = .slice a he.length c ∧ EvAt a he w') ∧ Below W.heap.size W w') := fun W hW => by
     have hE9 : EntAt (some ⟨b, off, none⟩) (es.take i) W := (HE.out.take i).step (bStep HB1.out hW)
     have hln : (es.take i).length = i := by rw [List.length_take]; omega
     have h9 := REvents_any c hE9 (by rw [hln]; have := HN.out.2.1; omega)
     rw [hln, hhe] at h9
     exact h9.mono fun en w' ⟨v, e1, e2, e3⟩ => ⟨v, e1, evAt_own hel.symm e2, e3⟩
    have CC : Hid (∀ (W : World), Below w1.heap.size w1 W → ∀ {aq : Option Addr} {cq : Nat}, EvAt aq he W → Calls Tryz.prog 50 #[.string name, .slice aq he.length cq, .agg #[.int .i64 k, .int .i64 t, .int .i64 a1, .int .i64 b1, .string nm, .string ot]] W fun e w' => e = .returned (.bool (canR name (evsOf (es.take i)) (k, t, a1, b1, nm, ot))) ∧ Below W.heap.size W w') := fun W hW aq cq hq => by
     have h9 := RCan_any cq name hq (by rw [hel]; have := HN.out.2.1; omega) (by rw [← hhe]; exact few_ok HLG.out.2) HN.out.1 (k, t, a1, b1, nm, ot)
     rw [← hhe] at h9 ⊢
     exact h9
    have HEL := Lib.hid hel
    clear hhe hel
    cases hcan : canR name (evsOf (es.take i)) (k, t, a1, b1, nm, ot)
    ·rw [hcan] at CC
     have HF := Lib.hid (HST0.out (rt_2 hcan))
     clear hcan
     refine region_gall 49 50 129 [(9, 46)] [(none, []), (none, []), (none, []), (none, []), (none, []), (none, []), (none, []), (none, []), (none, []), (some 0, []), (none, []), (none, []), (none, [0]), (none, []), (none, []), (none, []), (none, []), (none, []), (none, []), (none, []), (none, []), (none, []), (none, []), (none, []), (none, []), (none, []), (none, []), (none, []), (none, []), (none, []), (none, []), (none, []), (none, []), (none, []), (none, []), (none, []), (none, []), (none, []), (none, []), (none, []), (none, []), (none, []), (none, []), (none, []), (none, []), (none, []), (none, []), (none, []), (none, [])] [(37, (.pointer (some ⟨P, 0, none⟩))), (38, (.agg #[.int .i64 k, .int .i64 t, .int .i64 a1, .int .i64 b1, .string nm, .string ot])), (39, (.int .i64 0)), (40, (.bool false)), (41, (.bool false)), (42, (.string name)), (43, (.slice (some ⟨b, off, none⟩) es.length c)), (44, (.int .i64 (i : Int))), (45, (.slice (some ⟨b, off, none⟩) i c)), (47, (.pointer (some ⟨P, 0, none⟩))), (48, (.agg #[.int .i64 k, .int .i64 t, .int .i64 a1, .int .i64 b1, .string nm, .string ot])), (49, (.bool false)), (50, (.bool true)), (51, (.bool true)), (52, (.bool true)), (53, undef), (54, undef), (55, undef), (56, (.bool true)), (57, (.bool true)), (58, undef), (59, undef), (60, undef), (61, undef), (62, undef), (63, (.bool true)), (64, (.bool true)), (65, undef), (66, undef), (67, undef), (68, (.bool true)), (69, (.bool true)), (70, undef), (71, undef), (72, undef), (73, undef), (74, undef), (75, undef), (76, undef), (77, undef), (78, undef), (79, undef), (80, undef), (81, undef), (82, undef), (83, undef), (84, undef), (85, (.bool true))] (fun bsE vsE W => EvS w1 he (bsE.getD 0 false) ((vsE.getD 0 undef)) W) (by kernel_rfl) (by kernel_rfl) rfl rfl (by kernel_rfl) (by rfl) ?h0 ?each ?done
     case h0 =>
      intro vsE hlv
      obtain ⟨v0, vsE0, rfl, hlv0⟩ := len_one hlv
      obtain rfl := len_nil hlv0
      exact ⟨(Below.refl _ _).drew, fun e => by cases e⟩
     case each =>
      simp only [AllE]
      refine ⟨Or.inr ⟨Or.inl rfl, 37, (.pointer (some ⟨P, 0, none⟩)), rfl, by kernel_rfl, ?_⟩, Or.inr ⟨Or.inl rfl, 38, (.agg #[.int .i64 k, .int .i64 t, .int .i64 a1, .int .i64 b1, .string nm, .string ot]), rfl, by kernel_rfl, ?_⟩, Or.inr ⟨Or.inl rfl, 39, (.int .i64 0), rfl, by kernel_rfl, ?q1_2⟩, Or.inr ⟨Or.inl rfl, 40, (.bool false), rfl, by kernel_rfl, ?_⟩, Or.inr ⟨Or.inl rfl, 41, (.bool false), rfl, by kernel_rfl, ?_⟩, Or.inr ⟨Or.inr ⟨_, _, _, rfl, rfl, by kernel_rfl⟩, 42, (.string name), rfl, by kernel_rfl, ?_⟩, Or.inr ⟨Or.inr ⟨_, _, _, rfl, rfl, by kernel_rfl⟩, 43, (.slice (some ⟨b, off, none⟩) es.length c), rfl, by kernel_rfl, ?_⟩, Or.inr ⟨Or.inr ⟨_, _, _, rfl, rfl, by kernel_rfl⟩, 44, (.int .i64 (i : Int)), rfl, by kernel_rfl, ?_⟩, Or.inr ⟨Or.inr ⟨_, _, _, rfl, rfl, by kernel_rfl⟩, 45, (.slice (some ⟨b, off, none⟩) i c), rfl, by kernel_rfl, ?_⟩, ⟨Or.inr ⟨_, _, _, rfl, rfl, by kernel_rfl⟩, Or.inl ⟨46, rfl, ?q1_9⟩⟩, Or.inr ⟨Or.inr ⟨_, _, _, rfl, rfl, by kernel_rfl⟩, 47, (.pointer (some ⟨P, 0, none⟩)), rfl, by kernel_rfl, ?_⟩, Or.inr ⟨Or.inr ⟨_, _, _, rfl, rfl, by kernel_rfl⟩, 48, (.agg #[.int .i64 k, .int .i64 t, .int .i64 a1, .int .i64 b1, .string nm, .string ot]), rfl, by kernel_rfl, ?_⟩, Or.inr ⟨Or.inr ⟨_, _, _, rfl, rfl, by kernel_rfl⟩, 49, (.bool false), rfl, by kernel_rfl, ?q1_12⟩, Or.inr ⟨Or.inr ⟨_, _, _, rfl, rfl, by kernel_rfl⟩, 50, (.bool true), rfl, by kernel_rfl, ?_⟩, Or.inr ⟨Or.inl rfl, 51, (.bool true), rfl, by kernel_rfl, ?_⟩, Or.inr ⟨Or.inl rfl, 52, (.bool true), rfl, by kernel_rfl, ?_⟩, Or.inl ⟨⟨_, _, _, true, rfl, rfl, by kernel_rfl, rfl⟩, 53, rfl, by kernel_rfl⟩, Or.inl ⟨⟨_, _, _, true, rfl, rfl, by kernel_rfl, rfl⟩, 54, rfl, by kernel_rfl⟩, Or.inl ⟨⟨_, _, _, true, rfl, rfl, by kernel_rfl, rfl⟩, 55, rfl, by kernel_rfl⟩, Or.inr ⟨Or.inl rfl, 56, (.bool true), rfl, by kernel_rfl, ?_⟩, Or.inr ⟨Or.inl rfl, 57, (.bool true), rfl, by kernel_rfl, ?_⟩, Or.inl ⟨⟨_, _, _, true, rfl, rfl, by kernel_rfl, rfl⟩, 58, rfl, by kernel_rfl⟩, Or.inl ⟨⟨_, _, _, true, rfl, rfl, by kernel_rfl, rfl⟩, 59, rfl, by kernel_rfl⟩, Or.inl ⟨⟨_, _, _, true, rfl, rfl, by kernel_rfl, rfl⟩, 60, rfl, by kernel_rfl⟩, Or.inl ⟨⟨_, _, _, true, rfl, rfl, by kernel_rfl, rfl⟩, 61, rfl, by kernel_rfl⟩, Or.inl ⟨⟨_, _, _, true, rfl, rfl, by kernel_rfl, rfl⟩, 62, rfl, by kernel_rfl⟩, Or.inr ⟨Or.inl rfl, 63, (.bool true), rfl, by kernel_rfl, ?_⟩, Or.inr ⟨Or.inl rfl, 64, (.bool true), rfl, by kernel_rfl, ?_⟩, Or.inl ⟨⟨_, _, _, true, rfl, rfl, by kernel_rfl, rfl⟩, 65, rfl, by kernel_rfl⟩, Or.inl ⟨⟨_, _, _, true, rfl, rfl, by kernel_rfl, rfl⟩, 66, rfl, by kernel_rfl⟩, Or.inl ⟨⟨_, _, _, true, rfl, rfl, by kernel_rfl, rfl⟩, 67, rfl, by kernel_rfl⟩, Or.inr ⟨Or.inl rfl, 68, (.bool true), rfl, by kernel_rfl, ?_⟩, Or.inr ⟨Or.inl rfl, 69, (.bool true), rfl, by kernel_rfl, ?_⟩, Or.inl ⟨⟨_, _, _, true, rfl, rfl, by kernel_rfl, rfl⟩, 70, rfl, by kernel_rfl⟩, Or.inl ⟨⟨_, _, _, true, rfl, rfl, by kernel_rfl, rfl⟩, 71, rfl, by kernel_rfl⟩, Or.inl ⟨⟨_, _, _, true, rfl, rfl, by kernel_rfl, rfl⟩, 72, rfl, by kernel_rfl⟩, Or.inl ⟨⟨_, _, _, true, rfl, rfl, by kernel_rfl, rfl⟩, 73, rfl, by kernel_rfl⟩, Or.inl ⟨⟨_, _, _, true, rfl, rfl, by kernel_rfl, rfl⟩, 74, rfl, by kernel_rfl⟩, Or.inl ⟨⟨_, _, _, true, rfl, rfl, by kernel_rfl, rfl⟩, 75, rfl, by kernel_rfl⟩, Or.inl ⟨⟨_, _, _, true, rfl, rfl, by kernel_rfl, rfl⟩, 76, rfl, by kernel_rfl⟩, Or.inl ⟨⟨_, _, _, true, rfl, rfl, by kernel_rfl, rfl⟩, 77, rfl, by kernel_rfl⟩, Or.inl ⟨⟨_, _, _, true, rfl, rfl, by kernel_rfl, rfl⟩, 78, rfl, by kernel_rfl⟩, Or.inl ⟨⟨_, _, _, true, rfl, rfl, by kernel_rfl, rfl⟩, 79, rfl, by kernel_rfl⟩, Or.inl ⟨⟨_, _, _, true, rfl, rfl, by kernel_rfl, rfl⟩, 80, rfl, by kernel_rfl⟩, Or.inl ⟨⟨_, _, _, true, rfl, rfl, by kernel_rfl, rfl⟩, 81, rfl, by kernel_rfl⟩, Or.inl ⟨⟨_, _, _, true, rfl, rfl, by kernel_rfl, rfl⟩, 82, rfl, by kernel_rfl⟩, Or.inl ⟨⟨_, _, _, true, rfl, rfl, by kernel_rfl, rfl⟩, 83, rfl, by kernel_rfl⟩, Or.inl ⟨⟨_, _, _, true, rfl, rfl, by kernel_rfl, rfl⟩, 84, rfl, by kernel_rfl⟩, Or.inr ⟨Or.inl rfl, 85, (.bool true), rfl, by kernel_rfl, ?_⟩, trivial⟩
      case q1_2 =>
       intro bsE vsE W hlb hlv hnd h
       obtain ⟨b0, bsE0, rfl, hlb0⟩ := len_one hlb
       obtain ⟨v0, vsE0, rfl, hlv0⟩ := len_one hlv
       obtain rfl := len_nil hlb0
       obtain rfl := len_nil hlv0
       replace h : EvS w1 he b0 (v0) W := h
       clear hnd
       have HST := Lib.hid h
       have u0 : W.cell? ⟨P, 0, none⟩ = some (.int .i64 k) := cell_step (blk_cell HEX.out rfl) h.bel; have u1 : W.cell? ⟨P, 1, none⟩ = some (.int .i64 t) := cell_step (blk_cell HEX.out rfl) h.bel; have u2 : W.cell? ⟨P, 2, none⟩ = some (.int .i64 a1) := cell_step (blk_cell HEX.out rfl) h.bel; have u3 : W.cell? ⟨P, 3, none⟩ = some (.int .i64 b1) := cell_step (blk_cell HEX.out rfl) h.bel; have u4 : W.cell? ⟨P, 4, none⟩ = some (.string nm) := cell_step (blk_cell HEX.out rfl) h.bel; have u5 : W.cell? ⟨P, 5, none⟩ = some (.string ot) := cell_step (blk_cell HEX.out rfl) h.bel; have u6 : W.cell? ⟨P, 6, none⟩ = some (.int .i64 by_) := cell_step (blk_cell HEX.out rfl) h.bel; have u7 : W.cell? ⟨P, 7, none⟩ = some (.int .i64 pad) := cell_step (blk_cell HEX.out rfl) h.bel; have ul := Nat.lt_of_lt_of_le (blk_lt HEX.out) h.bel.size
       intro K Q hK
       simp only [putE, updAll, Act.put, List.setIfInBounds_toArray, List.set_cons_zero, List.set_cons_succ, List.set_nil] at hK ⊢
       go_wp2_with (go_at_call 49; refine (CK.out _ h.bel).mono ?_; rintro e w9 ⟨rfl, hb9⟩)
       all_goals (first | exact hK _ (⟨bStep h.bel hb9, fun e => by obtain ⟨q1, q2, q3, q4⟩ := h.o0 e; exact ⟨q1, q2, q3, q4.step hb9⟩⟩ : EvS w1 he b0 v0 w9) | exact (⟨bStep h.bel hb9, fun e => by obtain ⟨q1, q2, q3, q4⟩ := h.o0 e; exact ⟨q1, q2, q3, q4.step hb9⟩⟩ : EvS w1 he b0 v0 w9))
      case q1_9 =>
       intro bsE vsE W hlb hlv hnd hbk h
       obtain ⟨b0, bsE0, rfl, hlb0⟩ := len_one hlb
       obtain ⟨v0, vsE0, rfl, hlv0⟩ := len_one hlv
       obtain rfl := len_nil hlb0
       obtain rfl := len_nil hlv0
       obtain rfl : b0 = false := hbk
       replace h : EvS w1 he false (v0) W := h
       clear hnd
       have HST := Lib.hid h
       skip
       intro K Q hK
       simp only [putE, updAll, Act.put, List.setIfInBounds_toArray, List.set_cons_zero, List.set_cons_succ, List.set_nil] at hK ⊢
       go_wp2_with (go_at_call 51; refine (CE.out _ h.bel).mono ?_; rintro e w9 ⟨vq, rfl, ho9, hb9⟩)
       all_goals (have hm : EvS w1 he true vq w9 := ⟨bStep h.bel hb9, fun _ => ho9⟩)
       all_goals (first | exact hK _ _ hm | exact hm)
      case q1_12 =>
       intro bsE vsE W hlb hlv hnd h
       obtain ⟨b0, bsE0, rfl, hlb0⟩ := len_one hlb
       obtain ⟨v0, vsE0, rfl, hlv0⟩ := len_one hlv
       obtain rfl := len_nil hlb0
       obtain rfl := len_nil hlv0
       obtain rfl : b0 = true := hnd 0 (by simp)
       replace h : EvS w1 he true (v0) W := h
       clear hnd
       have HST := Lib.hid h
       have u0 : W.cell? ⟨P, 0, none⟩ = some (.int .i64 k) := cell_step (blk_cell HEX.out rfl) h.bel; have u1 : W.cell? ⟨P, 1, none⟩ = some (.int .i64 t) := cell_step (blk_cell HEX.out rfl) h.bel; have u2 : W.cell? ⟨P, 2, none⟩ = some (.int .i64 a1) := cell_step (blk_cell HEX.out rfl) h.bel; have u3 : W.cell? ⟨P, 3, none⟩ = some (.int .i64 b1) := cell_step (blk_cell HEX.out rfl) h.bel; have u4 : W.cell? ⟨P, 4, none⟩ = some (.string nm) := cell_step (blk_cell HEX.out rfl) h.bel; have u5 : W.cell? ⟨P, 5, none⟩ = some (.string ot) := cell_step (blk_cell HEX.out rfl) h.bel; obtain ⟨aq, cq, rfl, hq0⟩ := h.o0 rfl
       intro K Q hK
       simp only [putE, updAll, Act.put, List.setIfInBounds_toArray, List.set_cons_zero, List.set_cons_succ, List.set_nil] at hK ⊢
       go_wp2_with (go_at_call 50; refine (CC.out _ h.bel hq0).mono ?_; rintro e w9 ⟨rfl, hb9⟩)
       all_goals (first | exact hK _ (⟨bStep h.bel hb9, fun e => by obtain ⟨q1, q2, q3, q4⟩ := h.o0 e; exact ⟨q1, q2, q3, q4.step hb9⟩⟩ : EvS w1 he _ _ w9) | exact (⟨bStep h.bel hb9, fun e => by obtain ⟨q1, q2, q3, q4⟩ := h.o0 e; exact ⟨q1, q2, q3, q4.step hb9⟩⟩ : EvS w1 he _ _ w9))
      all_goals
       intro bsE vsE W hlb hlv hnd h
       obtain ⟨b0, bsE0, rfl, hlb0⟩ := len_one hlb
       obtain ⟨v0, vsE0, rfl, hlv0⟩ := len_one hlv
       obtain rfl := len_nil hlb0
       obtain rfl := len_nil hlv0
       replace h : EvS w1 he b0 (v0) W := h
       clear hnd
       have HST := Lib.hid h
       have u0 : W.cell? ⟨P, 0, none⟩ = some (.int .i64 k) := cell_step (blk_cell HEX.out rfl) h.bel; have u1 : W.cell? ⟨P, 1, none⟩ = some (.int .i64 t) := cell_step (blk_cell HEX.out rfl) h.bel; have u2 : W.cell? ⟨P, 2, none⟩ = some (.int .i64 a1) := cell_step (blk_cell HEX.out rfl) h.bel; have u3 : W.cell? ⟨P, 3, none⟩ = some (.int .i64 b1) := cell_step (blk_cell HEX.out rfl) h.bel; have u4 : W.cell? ⟨P, 4, none⟩ = some (.string nm) := cell_step (blk_cell HEX.out rfl) h.bel; have u5 : W.cell? ⟨P, 5, none⟩ = some (.string ot) := cell_step (blk_cell HEX.out rfl) h.bel; have u6 : W.cell? ⟨P, 6, none⟩ = some (.int .i64 by_) := cell_step (blk_cell HEX.out rfl) h.bel; have u7 : W.cell? ⟨P, 7, none⟩ = some (.int .i64 pad) := cell_step (blk_cell HEX.out rfl) h.bel; have ul := Nat.lt_of_lt_of_le (blk_lt HEX.out) h.bel.size
       intro K Q hK
       simp only [putE, updAll, Act.put, List.setIfInBounds_toArray, List.set_cons_zero, List.set_cons_succ, List.set_nil] at hK ⊢
       go_wp2_with (fail)
       all_goals (first | exact hK _ h | exact h)
     case done =>
      intro vsE W hlv h
      obtain ⟨v0, vsE0, rfl, hlv0⟩ := len_one hlv
      obtain rfl := len_nil hlv0
      replace h : EvS w1 he true (v0) W := h
      have HST := Lib.hid h
      have H9 := Lib.hid h.bel
      clear h HST
      simp only [putE, updAll, Act.put, List.setIfInBounds_toArray, List.set_cons_zero, List.set_cons_succ, List.set_nil]
      go_wp2_with fail
      exact bodyPost_ret (v := .tuple #[.int .i64 (i : Int), .bool false, .int .i64 0]) (by simp only [results, Tryz.results13]; go_simp) rfl ⟨by rw [HF.out, decide_eq_false HNE.out], bStep HB1.out H9.out⟩
    ·rw [hcan] at CC
     have HCAN := Lib.hid hcan
     clear hcan
     by_cases h0 : by_ < 0
     ·have HF := Lib.hid (HST0.out (rt_3 (by dsimp only; omega)))
      refine region_gall 49 50 129 [(9, 46)] [(none, []), (none, []), (none, []), (none, []), (none, []), (none, []), (none, []), (none, []), (none, []), (some 0, []), (none, []), (none, []), (none, [0]), (none, []), (none, []), (none, []), (none, []), (none, []), (none, []), (none, []), (none, []), (none, []), (none, []), (none, []), (none, []), (none, []), (none, []), (none, []), (none, []), (none, []), (none, []), (none, []), (none, []), (none, []), (none, []), (none, []), (none, []), (none, []), (none, []), (none, []), (none, []), (none, []), (none, []), (none, []), (none, []), (none, []), (none, []), (none, []), (none, [])] [(37, (.pointer (some ⟨P, 0, none⟩))), (38, (.agg #[.int .i64 k, .int .i64 t, .int .i64 a1, .int .i64 b1, .string nm, .string ot])), (39, (.int .i64 0)), (40, (.bool false)), (41, (.bool false)), (42, (.string name)), (43, (.slice (some ⟨b, off, none⟩) es.length c)), (44, (.int .i64 (i : Int))), (45, (.slice (some ⟨b, off, none⟩) i c)), (47, (.pointer (some ⟨P, 0, none⟩))), (48, (.agg #[.int .i64 k, .int .i64 t, .int .i64 a1, .int .i64 b1, .string nm, .string ot])), (49, (.bool true)), (50, (.bool false)), (51, (.bool false)), (52, (.bool false)), (53, (.pointer (some ⟨P, 6, none⟩))), (54, (.int .i64 (by_ : Int))), (55, (.bool true)), (56, (.bool true)), (57, (.bool true)), (58, undef), (59, undef), (60, undef), (61, undef), (62, undef), (63, (.bool true)), (64, (.bool true)), (65, undef), (66, undef), (67, undef), (68, (.bool true)), (69, (.bool true)), (70, undef), (71, undef), (72, undef), (73, undef), (74, undef), (75, undef), (76, undef), (77, undef), (78, undef), (79, undef), (80, undef), (81, undef), (82, undef), (83, undef), (84, undef), (85, (.bool true))] (fun bsE vsE W => EvS w1 he (bsE.getD 0 false) ((vsE.getD 0 undef)) W) (by kernel_rfl) (by kernel_rfl) rfl rfl (by kernel_rfl) (by rfl) ?h0 ?each ?done
      case h0 =>
       intro vsE hlv
       obtain ⟨v0, vsE0, rfl, hlv0⟩ := len_one hlv
       obtain rfl := len_nil hlv0
       exact ⟨(Below.refl _ _).drew, fun e => by cases e⟩
      case each =>
       simp only [AllE]
       refine ⟨Or.inr ⟨Or.inl rfl, 37, (.pointer (some ⟨P, 0, none⟩)), rfl, by kernel_rfl, ?_⟩, Or.inr ⟨Or.inl rfl, 38, (.agg #[.int .i64 k, .int .i64 t, .int .i64 a1, .int .i64 b1, .string nm, .string ot]), rfl, by kernel_rfl, ?_⟩, Or.inr ⟨Or.inl rfl, 39, (.int .i64 0), rfl, by kernel_rfl, ?q2_2⟩, Or.inr ⟨Or.inl rfl, 40, (.bool false), rfl, by kernel_rfl, ?_⟩, Or.inr ⟨Or.inl rfl, 41, (.bool false), rfl, by kernel_rfl, ?_⟩, Or.inr ⟨Or.inr ⟨_, _, _, rfl, rfl, by kernel_rfl⟩, 42, (.string name), rfl, by kernel_rfl, ?_⟩, Or.inr ⟨Or.inr ⟨_, _, _, rfl, rfl, by kernel_rfl⟩, 43, (.slice (some ⟨b, off, none⟩) es.length c), rfl, by kernel_rfl, ?_⟩, Or.inr ⟨Or.inr ⟨_, _, _, rfl, rfl, by kernel_rfl⟩, 44, (.int .i64 (i : Int)), rfl, by kernel_rfl, ?_⟩, Or.inr ⟨Or.inr ⟨_, _, _, rfl, rfl, by kernel_rfl⟩, 45, (.slice (some ⟨b, off, none⟩) i c), rfl, by kernel_rfl, ?_⟩, ⟨Or.inr ⟨_, _, _, rfl, rfl, by kernel_rfl⟩, Or.inl ⟨46, rfl, ?q2_9⟩⟩, Or.inr ⟨Or.inr ⟨_, _, _, rfl, rfl, by kernel_rfl⟩, 47, (.pointer (some ⟨P, 0, none⟩)), rfl, by kernel_rfl, ?_⟩, Or.inr ⟨Or.inr ⟨_, _, _, rfl, rfl, by kernel_rfl⟩, 48, (.agg #[.int .i64 k, .int .i64 t, .int .i64 a1, .int .i64 b1, .string nm, .string ot]), rfl, by kernel_rfl, ?_⟩, Or.inr ⟨Or.inr ⟨_, _, _, rfl, rfl, by kernel_rfl⟩, 49, (.bool true), rfl, by kernel_rfl, ?q2_12⟩, Or.inr ⟨Or.inr ⟨_, _, _, rfl, rfl, by kernel_rfl⟩, 50, (.bool false), rfl, by kernel_rfl, ?_⟩, Or.inr ⟨Or.inl rfl, 51, (.bool false), rfl, by kernel_rfl, ?_⟩, Or.inr ⟨Or.inl rfl, 52, (.bool false), rfl, by kernel_rfl, ?_⟩, Or.inr ⟨Or.inr ⟨_, _, _, rfl, rfl, by kernel_rfl⟩, 53, (.pointer (some ⟨P, 6, none⟩)), rfl, by kernel_rfl, ?_⟩, Or.inr ⟨Or.inr ⟨_, _, _, rfl, rfl, by kernel_rfl⟩, 54, (.int .i64 (by_ : Int)), rfl, by kernel_rfl, ?_⟩, Or.inr ⟨Or.inr ⟨_, _, _, rfl, rfl, by kernel_rfl⟩, 55, (.bool true), rfl, by kernel_rfl, ?_⟩, Or.inr ⟨Or.inl rfl, 56, (.bool true), rfl, by kernel_rfl, ?_⟩, Or.inr ⟨Or.inl rfl, 57, (.bool true), rfl, by kernel_rfl, ?_⟩, Or.inl ⟨⟨_, _, _, true, rfl, rfl, by kernel_rfl, rfl⟩, 58, rfl, by kernel_rfl⟩, Or.inl ⟨⟨_, _, _, true, rfl, rfl, by kernel_rfl, rfl⟩, 59, rfl, by kernel_rfl⟩, Or.inl ⟨⟨_, _, _, true, rfl, rfl, by kernel_rfl, rfl⟩, 60, rfl, by kernel_rfl⟩, Or.inl ⟨⟨_, _, _, true, rfl, rfl, by kernel_rfl, rfl⟩, 61, rfl, by kernel_rfl⟩, Or.inl ⟨⟨_, _, _, true, rfl, rfl, by kernel_rfl, rfl⟩, 62, rfl, by kernel_rfl⟩, Or.inr ⟨Or.inl rfl, 63, (.bool true), rfl, by kernel_rfl, ?_⟩, Or.inr ⟨Or.inl rfl, 64, (.bool true), rfl, by kernel_rfl, ?_⟩, Or.inl ⟨⟨_, _, _, true, rfl, rfl, by kernel_rfl, rfl⟩, 65, rfl, by kernel_rfl⟩, Or.inl ⟨⟨_, _, _, true, rfl, rfl, by kernel_rfl, rfl⟩, 66, rfl, by kernel_rfl⟩, Or.inl ⟨⟨_, _, _, true, rfl, rfl, by kernel_rfl, rfl⟩, 67, rfl, by kernel_rfl⟩, Or.inr ⟨Or.inl rfl, 68, (.bool true), rfl, by kernel_rfl, ?_⟩, Or.inr ⟨Or.inl rfl, 69, (.bool true), rfl, by kernel_rfl, ?_⟩, Or.inl ⟨⟨_, _, _, true, rfl, rfl, by kernel_rfl, rfl⟩, 70, rfl, by kernel_rfl⟩, Or.inl ⟨⟨_, _, _, true, rfl, rfl, by kernel_rfl, rfl⟩, 71, rfl, by kernel_rfl⟩, Or.inl ⟨⟨_, _, _, true, rfl, rfl, by kernel_rfl, rfl⟩, 72, rfl, by kernel_rfl⟩, Or.inl ⟨⟨_, _, _, true, rfl, rfl, by kernel_rfl, rfl⟩, 73, rfl, by kernel_rfl⟩, Or.inl ⟨⟨_, _, _, true, rfl, rfl, by kernel_rfl, rfl⟩, 74, rfl, by kernel_rfl⟩, Or.inl ⟨⟨_, _, _, true, rfl, rfl, by kernel_rfl, rfl⟩, 75, rfl, by kernel_rfl⟩, Or.inl ⟨⟨_, _, _, true, rfl, rfl, by kernel_rfl, rfl⟩, 76, rfl, by kernel_rfl⟩, Or.inl ⟨⟨_, _, _, true, rfl, rfl, by kernel_rfl, rfl⟩, 77, rfl, by kernel_rfl⟩, Or.inl ⟨⟨_, _, _, true, rfl, rfl, by kernel_rfl, rfl⟩, 78, rfl, by kernel_rfl⟩, Or.inl ⟨⟨_, _, _, true, rfl, rfl, by kernel_rfl, rfl⟩, 79, rfl, by kernel_rfl⟩, Or.inl ⟨⟨_, _, _, true, rfl, rfl, by kernel_rfl, rfl⟩, 80, rfl, by kernel_rfl⟩, Or.inl ⟨⟨_, _, _, true, rfl, rfl, by kernel_rfl, rfl⟩, 81, rfl, by kernel_rfl⟩, Or.inl ⟨⟨_, _, _, true, rfl, rfl, by kernel_rfl, rfl⟩, 82, rfl, by kernel_rfl⟩, Or.inl ⟨⟨_, _, _, true, rfl, rfl, by kernel_rfl, rfl⟩, 83, rfl, by kernel_rfl⟩, Or.inl ⟨⟨_, _, _, true, rfl, rfl, by kernel_rfl, rfl⟩, 84, rfl, by kernel_rfl⟩, Or.inr ⟨Or.inl rfl, 85, (.bool true), rfl, by kernel_rfl, ?_⟩, trivial⟩
       case q2_2 =>
        intro bsE vsE W hlb hlv hnd h
        obtain ⟨b0, bsE0, rfl, hlb0⟩ := len_one hlb
        obtain ⟨v0, vsE0, rfl, hlv0⟩ := len_one hlv
        obtain rfl := len_nil hlb0
        obtain rfl := len_nil hlv0
        replace h : EvS w1 he b0 (v0) W := h
        clear hnd
        have HST := Lib.hid h
        have u0 : W.cell? ⟨P, 0, none⟩ = some (.int .i64 k) := cell_step (blk_cell HEX.out rfl) h.bel; have u1 : W.cell? ⟨P, 1, none⟩ = some (.int .i64 t) := cell_step (blk_cell HEX.out rfl) h.bel; have u2 : W.cell? ⟨P, 2, none⟩ = some (.int .i64 a1) := cell_step (blk_cell HEX.out rfl) h.bel; have u3 : W.cell? ⟨P, 3, none⟩ = some (.int .i64 b1) := cell_step (blk_cell HEX.out rfl) h.bel; have u4 : W.cell? ⟨P, 4, none⟩ = some (.string nm) := cell_step (blk_cell HEX.out rfl) h.bel; have u5 : W.cell? ⟨P, 5, none⟩ = some (.string ot) := cell_step (blk_cell HEX.out rfl) h.bel; have u6 : W.cell? ⟨P, 6, none⟩ = some (.int .i64 by_) := cell_step (blk_cell HEX.out rfl) h.bel; have u7 : W.cell? ⟨P, 7, none⟩ = some (.int .i64 pad) := cell_step (blk_cell HEX.out rfl) h.bel; have ul := Nat.lt_of_lt_of_le (blk_lt HEX.out) h.bel.size
        intro K Q hK
        simp only [putE, updAll, Act.put, List.setIfInBounds_toArray, List.set_cons_zero, List.set_cons_succ, List.set_nil] at hK ⊢
        go_wp2_with (go_at_call 49; refine (CK.out _ h.bel).mono ?_; rintro e w9 ⟨rfl, hb9⟩)
        all_goals (first | exact hK _ (⟨bStep h.bel hb9, fun e => by obtain ⟨q1, q2, q3, q4⟩ := h.o0 e; exact ⟨q1, q2, q3, q4.step hb9⟩⟩ : EvS w1 he b0 v0 w9) | exact (⟨bStep h.bel hb9, fun e => by obtain ⟨q1, q2, q3, q4⟩ := h.o0 e; exact ⟨q1, q2, q3, q4.step hb9⟩⟩ : EvS w1 he b0 v0 w9))
       case q2_9 =>
        intro bsE vsE W hlb hlv hnd hbk h
        obtain ⟨b0, bsE0, rfl, hlb0⟩ := len_one hlb
        obtain ⟨v0, vsE0, rfl, hlv0⟩ := len_one hlv
        obtain rfl := len_nil hlb0
        obtain rfl := len_nil hlv0
        obtain rfl : b0 = false := hbk
        replace h : EvS w1 he false (v0) W := h
        clear hnd
        have HST := Lib.hid h
        skip
        intro K Q hK
        simp only [putE, updAll, Act.put, List.setIfInBounds_toArray, List.set_cons_zero, List.set_cons_succ, List.set_nil] at hK ⊢
        go_wp2_with (go_at_call 51; refine (CE.out _ h.bel).mono ?_; rintro e w9 ⟨vq, rfl, ho9, hb9⟩)
        all_goals (have hm : EvS w1 he true vq w9 := ⟨bStep h.bel hb9, fun _ => ho9⟩)
        all_goals (first | exact hK _ _ hm | exact hm)
       case q2_12 =>
        intro bsE vsE W hlb hlv hnd h
        obtain ⟨b0, bsE0, rfl, hlb0⟩ := len_one hlb
        obtain ⟨v0, vsE0, rfl, hlv0⟩ := len_one hlv
        obtain rfl := len_nil hlb0
        obtain rfl := len_nil hlv0
        obtain rfl : b0 = true := hnd 0 (by simp)
        replace h : EvS w1 he true (v0) W := h
        clear hnd
        have HST := Lib.hid h
        have u0 : W.cell? ⟨P, 0, none⟩ = some (.int .i64 k) := cell_step (blk_cell HEX.out rfl) h.bel; have u1 : W.cell? ⟨P, 1, none⟩ = some (.int .i64 t) := cell_step (blk_cell HEX.out rfl) h.bel; have u2 : W.cell? ⟨P, 2, none⟩ = some (.int .i64 a1) := cell_step (blk_cell HEX.out rfl) h.bel; have u3 : W.cell? ⟨P, 3, none⟩ = some (.int .i64 b1) := cell_step (blk_cell HEX.out rfl) h.bel; have u4 : W.cell? ⟨P, 4, none⟩ = some (.string nm) := cell_step (blk_cell HEX.out rfl) h.bel; have u5 : W.cell? ⟨P, 5, none⟩ = some (.string ot) := cell_step (blk_cell HEX.out rfl) h.bel; obtain ⟨aq, cq, rfl, hq0⟩ := h.o0 rfl
        intro K Q hK
        simp only [putE, updAll, Act.put, List.setIfInBounds_toArray, List.set_cons_zero, List.set_cons_succ, List.set_nil] at hK ⊢
        go_wp2_with (go_at_call 50; refine (CC.out _ h.bel hq0).mono ?_; rintro e w9 ⟨rfl, hb9⟩)
        all_goals (first | exact hK _ (⟨bStep h.bel hb9, fun e => by obtain ⟨q1, q2, q3, q4⟩ := h.o0 e; exact ⟨q1, q2, q3, q4.step hb9⟩⟩ : EvS w1 he _ _ w9) | exact (⟨bStep h.bel hb9, fun e => by obtain ⟨q1, q2, q3, q4⟩ := h.o0 e; exact ⟨q1, q2, q3, q4.step hb9⟩⟩ : EvS w1 he _ _ w9))
       all_goals
        intro bsE vsE W hlb hlv hnd h
        obtain ⟨b0, bsE0, rfl, hlb0⟩ := len_one hlb
        obtain ⟨v0, vsE0, rfl, hlv0⟩ := len_one hlv
        obtain rfl := len_nil hlb0
        obtain rfl := len_nil hlv0
        replace h : EvS w1 he b0 (v0) W := h
        clear hnd
        have HST := Lib.hid h
        have u0 : W.cell? ⟨P, 0, none⟩ = some (.int .i64 k) := cell_step (blk_cell HEX.out rfl) h.bel; have u1 : W.cell? ⟨P, 1, none⟩ = some (.int .i64 t) := cell_step (blk_cell HEX.out rfl) h.bel; have u2 : W.cell? ⟨P, 2, none⟩ = some (.int .i64 a1) := cell_step (blk_cell HEX.out rfl) h.bel; have u3 : W.cell? ⟨P, 3, none⟩ = some (.int .i64 b1) := cell_step (blk_cell HEX.out rfl) h.bel; have u4 : W.cell? ⟨P, 4, none⟩ = some (.string nm) := cell_step (blk_cell HEX.out rfl) h.bel; have u5 : W.cell? ⟨P, 5, none⟩ = some (.string ot) := cell_step (blk_cell HEX.out rfl) h.bel; have u6 : W.cell? ⟨P, 6, none⟩ = some (.int .i64 by_) := cell_step (blk_cell HEX.out rfl) h.bel; have u7 : W.cell? ⟨P, 7, none⟩ = some (.int .i64 pad) := cell_step (blk_cell HEX.out rfl) h.bel; have ul := Nat.lt_of_lt_of_le (blk_lt HEX.out) h.bel.size
        intro K Q hK
        simp only [putE, updAll, Act.put, List.setIfInBounds_toArray, List.set_cons_zero, List.set_cons_succ, List.set_nil] at hK ⊢
        go_wp2_with (fail)
        all_goals (first | exact hK _ h | exact h)
      case done =>
       intro vsE W hlv h
       obtain ⟨v0, vsE0, rfl, hlv0⟩ := len_one hlv
       obtain rfl := len_nil hlv0
       replace h : EvS w1 he true (v0) W := h
       have HST := Lib.hid h
       have H9 := Lib.hid h.bel
       clear h HST
       simp only [putE, updAll, Act.put, List.setIfInBounds_toArray, List.set_cons_zero, List.set_cons_succ, List.set_nil]
       go_wp2_with fail
       exact bodyPost_ret (v := .tuple #[.int .i64 (i : Int), .bool false, .int .i64 0]) (by simp only [results, Tryz.results13]; go_simp) rfl ⟨by rw [HF.out, decide_eq_false HNE.out], bStep HB1.out H9.out⟩
     ·obtain ⟨n, rfl⟩ := Int.eq_ofNat_of_zero_le (show 0 ≤ by_ by omega)
      clear h0
      by_cases h1 : bks.length ≤ n
      ·have h1i : (bks.length : Int) ≤ n := by omega
       have HF := Lib.hid (HST0.out (rt_3 (by dsimp only; omega)))
       clear h1
       refine region_gall 49 50 129 [(9, 46)] [(none, []), (none, []), (none, []), (none, []), (none, []), (none, []), (none, []), (none, []), (none, []), (some 0, []), (none, []), (none, []), (none, [0]), (none, []), (none, []), (none, []), (none, []), (none, []), (none, []), (none, []), (none, []), (none, []), (none, []), (none, []), (none, []), (none, []), (none, []), (none, []), (none, []), (none, []), (none, []), (none, []), (none, []), (none, []), (none, []), (none, []), (none, []), (none, []), (none, []), (none, []), (none, []), (none, []), (none, []), (none, []), (none, []), (none, []), (none, []), (none, []), (none, [])] [(37, (.pointer (some ⟨P, 0, none⟩))), (38, (.agg #[.int .i64 k, .int .i64 t, .int .i64 a1, .int .i64 b1, .string nm, .string ot])), (39, (.int .i64 0)), (40, (.bool false)), (41, (.bool false)), (42, (.string name)), (43, (.slice (some ⟨b, off, none⟩) es.length c)), (44, (.int .i64 (i : Int))), (45, (.slice (some ⟨b, off, none⟩) i c)), (47, (.pointer (some ⟨P, 0, none⟩))), (48, (.agg #[.int .i64 k, .int .i64 t, .int .i64 a1, .int .i64 b1, .string nm, .string ot])), (49, (.bool true)), (50, (.bool false)), (51, (.bool false)), (52, (.bool false)), (53, (.pointer (some ⟨P, 6, none⟩))), (54, (.int .i64 (n : Int))), (55, (.bool false)), (56, (.bool false)), (57, (.bool false)), (58, (.pointer (some ⟨P, 6, none⟩))), (59, (.int .i64 (n : Int))), (60, (.slice (some ⟨bb, ob, none⟩) bks.length cb)), (61, (.int .i64 (bks.length : Int))), (62, (.bool true)), (63, (.bool true)), (64, (.bool true)), (65, undef), (66, undef), (67, undef), (68, (.bool true)), (69, (.bool true)), (70, undef), (71, undef), (72, undef), (73, undef), (74, undef), (75, undef), (76, undef), (77, undef), (78, undef), (79, undef), (80, undef), (81, undef), (82, undef), (83, undef), (84, undef), (85, (.bool true))] (fun bsE vsE W => EvS w1 he (bsE.getD 0 false) ((vsE.getD 0 undef)) W) (by kernel_rfl) (by kernel_rfl) rfl rfl (by kernel_rfl) (by rfl) ?h0 ?each ?done
       case h0 =>
        intro vsE hlv
        obtain ⟨v0, vsE0, rfl, hlv0⟩ := len_one hlv
        obtain rfl := len_nil hlv0
        exact ⟨(Below.refl _ _).drew, fun e => by cases e⟩
       case each =>
        simp only [AllE]
        refine ⟨Or.inr ⟨Or.inl rfl, 37, (.pointer (some ⟨P, 0, none⟩)), rfl, by kernel_rfl, ?_⟩, Or.inr ⟨Or.inl rfl, 38, (.agg #[.int .i64 k, .int .i64 t, .int .i64 a1, .int .i64 b1, .string nm, .string ot]), rfl, by kernel_rfl, ?_⟩, Or.inr ⟨Or.inl rfl, 39, (.int .i64 0), rfl, by kernel_rfl, ?q3_2⟩, Or.inr ⟨Or.inl rfl, 40, (.bool false), rfl, by kernel_rfl, ?_⟩, Or.inr ⟨Or.inl rfl, 41, (.bool false), rfl, by kernel_rfl, ?_⟩, Or.inr ⟨Or.inr ⟨_, _, _, rfl, rfl, by kernel_rfl⟩, 42, (.string name), rfl, by kernel_rfl, ?_⟩, Or.inr ⟨Or.inr ⟨_, _, _, rfl, rfl, by kernel_rfl⟩, 43, (.slice (some ⟨b, off, none⟩) es.length c), rfl, by kernel_rfl, ?_⟩, Or.inr ⟨Or.inr ⟨_, _, _, rfl, rfl, by kernel_rfl⟩, 44, (.int .i64 (i : Int)), rfl, by kernel_rfl, ?_⟩, Or.inr ⟨Or.inr ⟨_, _, _, rfl, rfl, by kernel_rfl⟩, 45, (.slice (some ⟨b, off, none⟩) i c), rfl, by kernel_rfl, ?_⟩, ⟨Or.inr ⟨_, _, _, rfl, rfl, by kernel_rfl⟩, Or.inl ⟨46, rfl, ?q3_9⟩⟩, Or.inr ⟨Or.inr ⟨_, _, _, rfl, rfl, by kernel_rfl⟩, 47, (.pointer (some ⟨P, 0, none⟩)), rfl, by kernel_rfl, ?_⟩, Or.inr ⟨Or.inr ⟨_, _, _, rfl, rfl, by kernel_rfl⟩, 48, (.agg #[.int .i64 k, .int .i64 t, .int .i64 a1, .int .i64 b1, .string nm, .string ot]), rfl, by kernel_rfl, ?_⟩, Or.inr ⟨Or.inr ⟨_, _, _, rfl, rfl, by kernel_rfl⟩, 49, (.bool true), rfl, by kernel_rfl, ?q3_12⟩, Or.inr ⟨Or.inr ⟨_, _, _, rfl, rfl, by kernel_rfl⟩, 50, (.bool false), rfl, by kernel_rfl, ?_⟩, Or.inr ⟨Or.inl rfl, 51, (.bool false), rfl, by kernel_rfl, ?_⟩, Or.inr ⟨Or.inl rfl, 52, (.bool false), rfl, by kernel_rfl, ?_⟩, Or.inr ⟨Or.inr ⟨_, _, _, rfl, rfl, by kernel_rfl⟩, 53, (.pointer (some ⟨P, 6, none⟩)), rfl, by kernel_rfl, ?_⟩, Or.inr ⟨Or.inr ⟨_, _, _, rfl, rfl, by kernel_rfl⟩, 54, (.int .i64 (n : Int)), rfl, by kernel_rfl, ?_⟩, Or.inr ⟨Or.inr ⟨_, _, _, rfl, rfl, by kernel_rfl⟩, 55, (.bool false), rfl, by kernel_rfl, ?_⟩, Or.inr ⟨Or.inl rfl, 56, (.bool false), rfl, by kernel_rfl, ?_⟩, Or.inr ⟨Or.inl rfl, 57, (.bool false), rfl, by kernel_rfl, ?_⟩, Or.inr ⟨Or.inr ⟨_, _, _, rfl, rfl, by kernel_rfl⟩, 58, (.pointer (some ⟨P, 6, none⟩)), rfl, by kernel_rfl, ?_⟩, Or.inr ⟨Or.inr ⟨_, _, _, rfl, rfl, by kernel_rfl⟩, 59, (.int .i64 (n : Int)), rfl, by kernel_rfl, ?_⟩, Or.inr ⟨Or.inr ⟨_, _, _, rfl, rfl, by kernel_rfl⟩, 60, (.slice (some ⟨bb, ob, none⟩) bks.length cb), rfl, by kernel_rfl, ?_⟩, Or.inr ⟨Or.inr ⟨_, _, _, rfl, rfl, by kernel_rfl⟩, 61, (.int .i64 (bks.length : Int)), rfl, by kernel_rfl, ?_⟩, Or.inr ⟨Or.inr ⟨_, _, _, rfl, rfl, by kernel_rfl⟩, 62, (.bool true), rfl, by kernel_rfl, ?_⟩, Or.inr ⟨Or.inl rfl, 63, (.bool true), rfl, by kernel_rfl, ?_⟩, Or.inr ⟨Or.inl rfl, 64, (.bool true), rfl, by kernel_rfl, ?_⟩, Or.inl ⟨⟨_, _, _, true, rfl, rfl, by kernel_rfl, rfl⟩, 65, rfl, by kernel_rfl⟩, Or.inl ⟨⟨_, _, _, true, rfl, rfl, by kernel_rfl, rfl⟩, 66, rfl, by kernel_rfl⟩, Or.inl ⟨⟨_, _, _, true, rfl, rfl, by kernel_rfl, rfl⟩, 67, rfl, by kernel_rfl⟩, Or.inr ⟨Or.inl rfl, 68, (.bool true), rfl, by kernel_rfl, ?_⟩, Or.inr ⟨Or.inl rfl, 69, (.bool true), rfl, by kernel_rfl, ?_⟩, Or.inl ⟨⟨_, _, _, true, rfl, rfl, by kernel_rfl, rfl⟩, 70, rfl, by kernel_rfl⟩, Or.inl ⟨⟨_, _, _, true, rfl, rfl, by kernel_rfl, rfl⟩, 71, rfl, by kernel_rfl⟩, Or.inl ⟨⟨_, _, _, true, rfl, rfl, by kernel_rfl, rfl⟩, 72, rfl, by kernel_rfl⟩, Or.inl ⟨⟨_, _, _, true, rfl, rfl, by kernel_rfl, rfl⟩, 73, rfl, by kernel_rfl⟩, Or.inl ⟨⟨_, _, _, true, rfl, rfl, by kernel_rfl, rfl⟩, 74, rfl, by kernel_rfl⟩, Or.inl ⟨⟨_, _, _, true, rfl, rfl, by kernel_rfl, rfl⟩, 75, rfl, by kernel_rfl⟩, Or.inl ⟨⟨_, _, _, true, rfl, rfl, by kernel_rfl, rfl⟩, 76, rfl, by kernel_rfl⟩, Or.inl ⟨⟨_, _, _, true, rfl, rfl, by kernel_rfl, rfl⟩, 77, rfl, by kernel_rfl⟩, Or.inl ⟨⟨_, _, _, true, rfl, rfl, by kernel_rfl, rfl⟩, 78, rfl, by kernel_rfl⟩, Or.inl ⟨⟨_, _, _, true, rfl, rfl, by kernel_rfl, rfl⟩, 79, rfl, by kernel_rfl⟩, Or.inl ⟨⟨_, _, _, true, rfl, rfl, by kernel_rfl, rfl⟩, 80, rfl, by kernel_rfl⟩, Or.inl ⟨⟨_, _, _, true, rfl, rfl, by kernel_rfl, rfl⟩, 81, rfl, by kernel_rfl⟩, Or.inl ⟨⟨_, _, _, true, rfl, rfl, by kernel_rfl, rfl⟩, 82, rfl, by kernel_rfl⟩, Or.inl ⟨⟨_, _, _, true, rfl, rfl, by kernel_rfl, rfl⟩, 83, rfl, by kernel_rfl⟩, Or.inl ⟨⟨_, _, _, true, rfl, rfl, by kernel_rfl, rfl⟩, 84, rfl, by kernel_rfl⟩, Or.inr ⟨Or.inl rfl, 85, (.bool true), rfl, by kernel_rfl, ?_⟩, trivial⟩
        case q3_2 =>
         intro bsE vsE W hlb hlv hnd h
         obtain ⟨b0, bsE0, rfl, hlb0⟩ := len_one hlb
         obtain ⟨v0, vsE0, rfl, hlv0⟩ := len_one hlv
         obtain rfl := len_nil hlb0
         obtain rfl := len_nil hlv0
         replace h : EvS w1 he b0 (v0) W := h
         clear hnd
         have HST := Lib.hid h
         have u0 : W.cell? ⟨P, 0, none⟩ = some (.int .i64 k) := cell_step (blk_cell HEX.out rfl) h.bel; have u1 : W.cell? ⟨P, 1, none⟩ = some (.int .i64 t) := cell_step (blk_cell HEX.out rfl) h.bel; have u2 : W.cell? ⟨P, 2, none⟩ = some (.int .i64 a1) := cell_step (blk_cell HEX.out rfl) h.bel; have u3 : W.cell? ⟨P, 3, none⟩ = some (.int .i64 b1) := cell_step (blk_cell HEX.out rfl) h.bel; have u4 : W.cell? ⟨P, 4, none⟩ = some (.string nm) := cell_step (blk_cell HEX.out rfl) h.bel; have u5 : W.cell? ⟨P, 5, none⟩ = some (.string ot) := cell_step (blk_cell HEX.out rfl) h.bel; have u6 : W.cell? ⟨P, 6, none⟩ = some (.int .i64 (n : Int)) := cell_step (blk_cell HEX.out rfl) h.bel; have u7 : W.cell? ⟨P, 7, none⟩ = some (.int .i64 pad) := cell_step (blk_cell HEX.out rfl) h.bel; have ul := Nat.lt_of_lt_of_le (blk_lt HEX.out) h.bel.size
         intro K Q hK
         simp only [putE, updAll, Act.put, List.setIfInBounds_toArray, List.set_cons_zero, List.set_cons_succ, List.set_nil] at hK ⊢
         go_wp2_with (go_at_call 49; refine (CK.out _ h.bel).mono ?_; rintro e w9 ⟨rfl, hb9⟩)
         all_goals (first | exact hK _ (⟨bStep h.bel hb9, fun e => by obtain ⟨q1, q2, q3, q4⟩ := h.o0 e; exact ⟨q1, q2, q3, q4.step hb9⟩⟩ : EvS w1 he b0 v0 w9) | exact (⟨bStep h.bel hb9, fun e => by obtain ⟨q1, q2, q3, q4⟩ := h.o0 e; exact ⟨q1, q2, q3, q4.step hb9⟩⟩ : EvS w1 he b0 v0 w9))
        case q3_9 =>
         intro bsE vsE W hlb hlv hnd hbk h
         obtain ⟨b0, bsE0, rfl, hlb0⟩ := len_one hlb
         obtain ⟨v0, vsE0, rfl, hlv0⟩ := len_one hlv
         obtain rfl := len_nil hlb0
         obtain rfl := len_nil hlv0
         obtain rfl : b0 = false := hbk
         replace h : EvS w1 he false (v0) W := h
         clear hnd
         have HST := Lib.hid h
         skip
         intro K Q hK
         simp only [putE, updAll, Act.put, List.setIfInBounds_toArray, List.set_cons_zero, List.set_cons_succ, List.set_nil] at hK ⊢
         go_wp2_with (go_at_call 51; refine (CE.out _ h.bel).mono ?_; rintro e w9 ⟨vq, rfl, ho9, hb9⟩)
         all_goals (have hm : EvS w1 he true vq w9 := ⟨bStep h.bel hb9, fun _ => ho9⟩)
         all_goals (first | exact hK _ _ hm | exact hm)
        case q3_12 =>
         intro bsE vsE W hlb hlv hnd h
         obtain ⟨b0, bsE0, rfl, hlb0⟩ := len_one hlb
         obtain ⟨v0, vsE0, rfl, hlv0⟩ := len_one hlv
         obtain rfl := len_nil hlb0
         obtain rfl := len_nil hlv0
         obtain rfl : b0 = true := hnd 0 (by simp)
         replace h : EvS w1 he true (v0) W := h
         clear hnd
         have HST := Lib.hid h
         have u0 : W.cell? ⟨P, 0, none⟩ = some (.int .i64 k) := cell_step (blk_cell HEX.out rfl) h.bel; have u1 : W.cell? ⟨P, 1, none⟩ = some (.int .i64 t) := cell_step (blk_cell HEX.out rfl) h.bel; have u2 : W.cell? ⟨P, 2, none⟩ = some (.int .i64 a1) := cell_step (blk_cell HEX.out rfl) h.bel; have u3 : W.cell? ⟨P, 3, none⟩ = some (.int .i64 b1) := cell_step (blk_cell HEX.out rfl) h.bel; have u4 : W.cell? ⟨P, 4, none⟩ = some (.string nm) := cell_step (blk_cell HEX.out rfl) h.bel; have u5 : W.cell? ⟨P, 5, none⟩ = some (.string ot) := cell_step (blk_cell HEX.out rfl) h.bel; obtain ⟨aq, cq, rfl, hq0⟩ := h.o0 rfl
         intro K Q hK
         simp only [putE, updAll, Act.put, List.setIfInBounds_toArray, List.set_cons_zero, List.set_cons_succ, List.set_nil] at hK ⊢
         go_wp2_with (go_at_call 50; refine (CC.out _ h.bel hq0).mono ?_; rintro e w9 ⟨rfl, hb9⟩)
         all_goals (first | exact hK _ (⟨bStep h.bel hb9, fun e => by obtain ⟨q1, q2, q3, q4⟩ := h.o0 e; exact ⟨q1, q2, q3, q4.step hb9⟩⟩ : EvS w1 he _ _ w9) | exact (⟨bStep h.bel hb9, fun e => by obtain ⟨q1, q2, q3, q4⟩ := h.o0 e; exact ⟨q1, q2, q3, q4.step hb9⟩⟩ : EvS w1 he _ _ w9))
        all_goals
         intro bsE vsE W hlb hlv hnd h
         obtain ⟨b0, bsE0, rfl, hlb0⟩ := len_one hlb
         obtain ⟨v0, vsE0, rfl, hlv0⟩ := len_one hlv
         obtain rfl := len_nil hlb0
         obtain rfl := len_nil hlv0
         replace h : EvS w1 he b0 (v0) W := h
         clear hnd
         have HST := Lib.hid h
         have u0 : W.cell? ⟨P, 0, none⟩ = some (.int .i64 k) := cell_step (blk_cell HEX.out rfl) h.bel; have u1 : W.cell? ⟨P, 1, none⟩ = some (.int .i64 t) := cell_step (blk_cell HEX.out rfl) h.bel; have u2 : W.cell? ⟨P, 2, none⟩ = some (.int .i64 a1) := cell_step (blk_cell HEX.out rfl) h.bel; have u3 : W.cell? ⟨P, 3, none⟩ = some (.int .i64 b1) := cell_step (blk_cell HEX.out rfl) h.bel; have u4 : W.cell? ⟨P, 4, none⟩ = some (.string nm) := cell_step (blk_cell HEX.out rfl) h.bel; have u5 : W.cell? ⟨P, 5, none⟩ = some (.string ot) := cell_step (blk_cell HEX.out rfl) h.bel; have u6 : W.cell? ⟨P, 6, none⟩ = some (.int .i64 (n : Int)) := cell_step (blk_cell HEX.out rfl) h.bel; have u7 : W.cell? ⟨P, 7, none⟩ = some (.int .i64 pad) := cell_step (blk_cell HEX.out rfl) h.bel; have ul := Nat.lt_of_lt_of_le (blk_lt HEX.out) h.bel.size
         intro K Q hK
         simp only [putE, updAll, Act.put, List.setIfInBounds_toArray, List.set_cons_zero, List.set_cons_succ, List.set_nil] at hK ⊢
         go_wp2_with (fail)
         all_goals (first | exact hK _ h | exact h)
       case done =>
        intro vsE W hlv h
        obtain ⟨v0, vsE0, rfl, hlv0⟩ := len_one hlv
        obtain rfl := len_nil hlv0
        replace h : EvS w1 he true (v0) W := h
        have HST := Lib.hid h
        have H9 := Lib.hid h.bel
        clear h HST
        simp only [putE, updAll, Act.put, List.setIfInBounds_toArray, List.set_cons_zero, List.set_cons_succ, List.set_nil]
        go_wp2_with fail
        exact bodyPost_ret (v := .tuple #[.int .i64 (i : Int), .bool false, .int .i64 0]) (by simp only [results, Tryz.results13]; go_simp) rfl ⟨by rw [HF.out, decide_eq_false HNE.out], bStep HB1.out H9.out⟩
      ·have h1i : ¬ (bks.length : Int) ≤ n := by omega
       have h2i : (n : Int) < bks.length := by omega
       have h2z : (0 : Int) ≤ n := by omega
       have H2 := Lib.hid (show n < bks.length by omega)
       clear h1
       by_cases h3 : pad < 0
       ·have HF := Lib.hid (HST0.out (rt_3 (by dsimp only; omega)))
        refine region_gall 49 50 129 [(9, 46)] [(none, []), (none, []), (none, []), (none, []), (none, []), (none, []), (none, []), (none, []), (none, []), (some 0, []), (none, []), (none, []), (none, [0]), (none, []), (none, []), (none, []), (none, []), (none, []), (none, []), (none, []), (none, []), (none, []), (none, []), (none, []), (none, []), (none, []), (none, []), (none, []), (none, []), (none, []), (none, []), (none, []), (none, []), (none, []), (none, []), (none, []), (none, []), (none, []), (none, []), (none, []), (none, []), (none, []), (none, []), (none, []), (none, []), (none, []), (none, []), (none, []), (none, [])] [(37, (.pointer (some ⟨P, 0, none⟩))), (38, (.agg #[.int .i64 k, .int .i64 t, .int .i64 a1, .int .i64 b1, .string nm, .string ot])), (39, (.int .i64 0)), (40, (.bool false)), (41, (.bool false)), (42, (.string name)), (43, (.slice (some ⟨b, off, none⟩) es.length c)), (44, (.int .i64 (i : Int))), (45, (.slice (some ⟨b, off, none⟩) i c)), (47, (.pointer (some ⟨P, 0, none⟩))), (48, (.agg #[.int .i64 k, .int .i64 t, .int .i64 a1, .int .i64 b1, .string nm, .string ot])), (49, (.bool true)), (50, (.bool false)), (51, (.bool false)), (52, (.bool false)), (53, (.pointer (some ⟨P, 6, none⟩))), (54, (.int .i64 (n : Int))), (55, (.bool false)), (56, (.bool false)), (57, (.bool false)), (58, (.pointer (some ⟨P, 6, none⟩))), (59, (.int .i64 (n : Int))), (60, (.slice (some ⟨bb, ob, none⟩) bks.length cb)), (61, (.int .i64 (bks.length : Int))), (62, (.bool false)), (63, (.bool false)), (64, (.bool false)), (65, (.pointer (some ⟨P, 7, none⟩))), (66, (.int .i64 (pad : Int))), (67, (.bool true)), (68, (.bool true)), (69, (.bool true)), (70, undef), (71, undef), (72, undef), (73, undef), (74, undef), (75, undef), (76, undef), (77, undef), (78, undef), (79, undef), (80, undef), (81, undef), (82, undef), (83, undef), (84, undef), (85, (.bool true))] (fun bsE vsE W => EvS w1 he (bsE.getD 0 false) ((vsE.getD 0 undef)) W) (by kernel_rfl) (by kernel_rfl) rfl rfl (by kernel_rfl) (by rfl) ?h0 ?each ?done
        case h0 =>
         intro vsE hlv
         obtain ⟨v0, vsE0, rfl, hlv0⟩ := len_one hlv
         obtain rfl := len_nil hlv0
         exact ⟨(Below.refl _ _).drew, fun e => by cases e⟩
        case each =>
         simp only [AllE]
         refine ⟨Or.inr ⟨Or.inl rfl, 37, (.pointer (some ⟨P, 0, none⟩)), rfl, by kernel_rfl, ?_⟩, Or.inr ⟨Or.inl rfl, 38, (.agg #[.int .i64 k, .int .i64 t, .int .i64 a1, .int .i64 b1, .string nm, .string ot]), rfl, by kernel_rfl, ?_⟩, Or.inr ⟨Or.inl rfl, 39, (.int .i64 0), rfl, by kernel_rfl, ?q4_2⟩, Or.inr ⟨Or.inl rfl, 40, (.bool false), rfl, by kernel_rfl, ?_⟩, Or.inr ⟨Or.inl rfl, 41, (.bool false), rfl, by kernel_rfl, ?_⟩, Or.inr ⟨Or.inr ⟨_, _, _, rfl, rfl, by kernel_rfl⟩, 42, (.string name), rfl, by kernel_rfl, ?_⟩, Or.inr ⟨Or.inr ⟨_, _, _, rfl, rfl, by kernel_rfl⟩, 43, (.slice (some ⟨b, off, none⟩) es.length c), rfl, by kernel_rfl, ?_⟩, Or.inr ⟨Or.inr ⟨_, _, _, rfl, rfl, by kernel_rfl⟩, 44, (.int .i64 (i : Int)), rfl, by kernel_rfl, ?_⟩, Or.inr ⟨Or.inr ⟨_, _, _, rfl, rfl, by kernel_rfl⟩, 45, (.slice (some ⟨b, off, none⟩) i c), rfl, by kernel_rfl, ?_⟩, ⟨Or.inr ⟨_, _, _, rfl, rfl, by kernel_rfl⟩, Or.inl ⟨46, rfl, ?q4_9⟩⟩, Or.inr ⟨Or.inr ⟨_, _, _, rfl, rfl, by kernel_rfl⟩, 47, (.pointer (some ⟨P, 0, none⟩)), rfl, by kernel_rfl, ?_⟩, Or.inr ⟨Or.inr ⟨_, _, _, rfl, rfl, by kernel_rfl⟩, 48, (.agg #[.int .i64 k, .int .i64 t, .int .i64 a1, .int .i64 b1, .string nm, .string ot]), rfl, by kernel_rfl, ?_⟩, Or.inr ⟨Or.inr ⟨_, _, _, rfl, rfl, by kernel_rfl⟩, 49, (.bool true), rfl, by kernel_rfl, ?q4_12⟩, Or.inr ⟨Or.inr ⟨_, _, _, rfl, rfl, by kernel_rfl⟩, 50, (.bool false), rfl, by kernel_rfl, ?_⟩, Or.inr ⟨Or.inl rfl, 51, (.bool false), rfl, by kernel_rfl, ?_⟩, Or.inr ⟨Or.inl rfl, 52, (.bool false), rfl, by kernel_rfl, ?_⟩, Or.inr ⟨Or.inr ⟨_, _, _, rfl, rfl, by kernel_rfl⟩, 53, (.pointer (some ⟨P, 6, none⟩)), rfl, by kernel_rfl, ?_⟩, Or.inr ⟨Or.inr ⟨_, _, _, rfl, rfl, by kernel_rfl⟩, 54, (.int .i64 (n : Int)), rfl, by kernel_rfl, ?_⟩, Or.inr ⟨Or.inr ⟨_, _, _, rfl, rfl, by kernel_rfl⟩, 55, (.bool false), rfl, by kernel_rfl, ?_⟩, Or.inr ⟨Or.inl rfl, 56, (.bool false), rfl, by kernel_rfl, ?_⟩, Or.inr ⟨Or.inl rfl, 57, (.bool false), rfl, by kernel_rfl, ?_⟩, Or.inr ⟨Or.inr ⟨_, _, _, rfl, rfl, by kernel_rfl⟩, 58, (.pointer (some ⟨P, 6, none⟩)), rfl, by kernel_rfl, ?_⟩, Or.inr ⟨Or.inr ⟨_, _, _, rfl, rfl, by kernel_rfl⟩, 59, (.int .i64 (n : Int)), rfl, by kernel_rfl, ?_⟩, Or.inr ⟨Or.inr ⟨_, _, _, rfl, rfl, by kernel_rfl⟩, 60, (.slice (some ⟨bb, ob, none⟩) bks.length cb), rfl, by kernel_rfl, ?_⟩, Or.inr ⟨Or.inr ⟨_, _, _, rfl, rfl, by kernel_rfl⟩, 61, (.int .i64 (bks.length : Int)), rfl, by kernel_rfl, ?_⟩, Or.inr ⟨Or.inr ⟨_, _, _, rfl, rfl, by kernel_rfl⟩, 62, (.bool false), rfl, by kernel_rfl, ?_⟩, Or.inr ⟨Or.inl rfl, 63, (.bool false), rfl, by kernel_rfl, ?_⟩, Or.inr ⟨Or.inl rfl, 64, (.bool false), rfl, by kernel_rfl, ?_⟩, Or.inr ⟨Or.inr ⟨_, _, _, rfl, rfl, by kernel_rfl⟩, 65, (.pointer (some ⟨P, 7, none⟩)), rfl, by kernel_rfl, ?_⟩, Or.inr ⟨Or.inr ⟨_, _, _, rfl, rfl, by kernel_rfl⟩, 66, (.int .i64 (pad : Int)), rfl, by kernel_rfl, ?_⟩, Or.inr ⟨Or.inr ⟨_, _, _, rfl, rfl, by kernel_rfl⟩, 67, (.bool true), rfl, by kernel_rfl, ?_⟩, Or.inr ⟨Or.inl rfl, 68, (.bool true), rfl, by kernel_rfl, ?_⟩, Or.inr ⟨Or.inl rfl, 69, (.bool true), rfl, by kernel_rfl, ?_⟩, Or.inl ⟨⟨_, _, _, true, rfl, rfl, by kernel_rfl, rfl⟩, 70, rfl, by kernel_rfl⟩, Or.inl ⟨⟨_, _, _, true, rfl, rfl, by kernel_rfl, rfl⟩, 71, rfl, by kernel_rfl⟩, Or.inl ⟨⟨_, _, _, true, rfl, rfl, by kernel_rfl, rfl⟩, 72, rfl, by kernel_rfl⟩, Or.inl ⟨⟨_, _, _, true, rfl, rfl, by kernel_rfl, rfl⟩, 73, rfl, by kernel_rfl⟩, Or.inl ⟨⟨_, _, _, true, rfl, rfl, by kernel_rfl, rfl⟩, 74, rfl, by kernel_rfl⟩, Or.inl ⟨⟨_, _, _, true, rfl, rfl, by kernel_rfl, rfl⟩, 75, rfl, by kernel_rfl⟩, Or.inl ⟨⟨_, _, _, true, rfl, rfl, by kernel_rfl, rfl⟩, 76, rfl, by kernel_rfl⟩, Or.inl ⟨⟨_, _, _, true, rfl, rfl, by kernel_rfl, rfl⟩, 77, rfl, by kernel_rfl⟩, Or.inl ⟨⟨_, _, _, true, rfl, rfl, by kernel_rfl, rfl⟩, 78, rfl, by kernel_rfl⟩, Or.inl ⟨⟨_, _, _, true, rfl, rfl, by kernel_rfl, rfl⟩, 79, rfl, by kernel_rfl⟩, Or.inl ⟨⟨_, _, _, true, rfl, rfl, by kernel_rfl, rfl⟩, 80, rfl, by kernel_rfl⟩, Or.inl ⟨⟨_, _, _, true, rfl, rfl, by kernel_rfl, rfl⟩, 81, rfl, by kernel_rfl⟩, Or.inl ⟨⟨_, _, _, true, rfl, rfl, by kernel_rfl, rfl⟩, 82, rfl, by kernel_rfl⟩, Or.inl ⟨⟨_, _, _, true, rfl, rfl, by kernel_rfl, rfl⟩, 83, rfl, by kernel_rfl⟩, Or.inl ⟨⟨_, _, _, true, rfl, rfl, by kernel_rfl, rfl⟩, 84, rfl, by kernel_rfl⟩, Or.inr ⟨Or.inl rfl, 85, (.bool true), rfl, by kernel_rfl, ?_⟩, trivial⟩
         case q4_2 =>
          intro bsE vsE W hlb hlv hnd h
          obtain ⟨b0, bsE0, rfl, hlb0⟩ := len_one hlb
          obtain ⟨v0, vsE0, rfl, hlv0⟩ := len_one hlv
          obtain rfl := len_nil hlb0
          obtain rfl := len_nil hlv0
          replace h : EvS w1 he b0 (v0) W := h
          clear hnd
          have HST := Lib.hid h
          have u0 : W.cell? ⟨P, 0, none⟩ = some (.int .i64 k) := cell_step (blk_cell HEX.out rfl) h.bel; have u1 : W.cell? ⟨P, 1, none⟩ = some (.int .i64 t) := cell_step (blk_cell HEX.out rfl) h.bel; have u2 : W.cell? ⟨P, 2, none⟩ = some (.int .i64 a1) := cell_step (blk_cell HEX.out rfl) h.bel; have u3 : W.cell? ⟨P, 3, none⟩ = some (.int .i64 b1) := cell_step (blk_cell HEX.out rfl) h.bel; have u4 : W.cell? ⟨P, 4, none⟩ = some (.string nm) := cell_step (blk_cell HEX.out rfl) h.bel; have u5 : W.cell? ⟨P, 5, none⟩ = some (.string ot) := cell_step (blk_cell HEX.out rfl) h.bel; have u6 : W.cell? ⟨P, 6, none⟩ = some (.int .i64 (n : Int)) := cell_step (blk_cell HEX.out rfl) h.bel; have u7 : W.cell? ⟨P, 7, none⟩ = some (.int .i64 pad) := cell_step (blk_cell HEX.out rfl) h.bel; have ul := Nat.lt_of_lt_of_le (blk_lt HEX.out) h.bel.size
          intro K Q hK
          simp only [putE, updAll, Act.put, List.setIfInBounds_toArray, List.set_cons_zero, List.set_cons_succ, List.set_nil] at hK ⊢
          go_wp2_with (go_at_call 49; refine (CK.out _ h.bel).mono ?_; rintro e w9 ⟨rfl, hb9⟩)
          all_goals (first | exact hK _ (⟨bStep h.bel hb9, fun e => by obtain ⟨q1, q2, q3, q4⟩ := h.o0 e; exact ⟨q1, q2, q3, q4.step hb9⟩⟩ : EvS w1 he b0 v0 w9) | exact (⟨bStep h.bel hb9, fun e => by obtain ⟨q1, q2, q3, q4⟩ := h.o0 e; exact ⟨q1, q2, q3, q4.step hb9⟩⟩ : EvS w1 he b0 v0 w9))
         case q4_9 =>
          intro bsE vsE W hlb hlv hnd hbk h
          obtain ⟨b0, bsE0, rfl, hlb0⟩ := len_one hlb
          obtain ⟨v0, vsE0, rfl, hlv0⟩ := len_one hlv
          obtain rfl := len_nil hlb0
          obtain rfl := len_nil hlv0
          obtain rfl : b0 = false := hbk
          replace h : EvS w1 he false (v0) W := h
          clear hnd
          have HST := Lib.hid h
          skip
          intro K Q hK
          simp only [putE, updAll, Act.put, List.setIfInBounds_toArray, List.set_cons_zero, List.set_cons_succ, List.set_nil] at hK ⊢
          go_wp2_with (go_at_call 51; refine (CE.out _ h.bel).mono ?_; rintro e w9 ⟨vq, rfl, ho9, hb9⟩)
          all_goals (have hm : EvS w1 he true vq w9 := ⟨bStep h.bel hb9, fun _ => ho9⟩)
          all_goals (first | exact hK _ _ hm | exact hm)
         case q4_12 =>
          intro bsE vsE W hlb hlv hnd h
          obtain ⟨b0, bsE0, rfl, hlb0⟩ := len_one hlb
          obtain ⟨v0, vsE0, rfl, hlv0⟩ := len_one hlv
          obtain rfl := len_nil hlb0
          obtain rfl := len_nil hlv0
          obtain rfl : b0 = true := hnd 0 (by simp)
          replace h : EvS w1 he true (v0) W := h
          clear hnd
          have HST := Lib.hid h
          have u0 : W.cell? ⟨P, 0, none⟩ = some (.int .i64 k) := cell_step (blk_cell HEX.out rfl) h.bel; have u1 : W.cell? ⟨P, 1, none⟩ = some (.int .i64 t) := cell_step (blk_cell HEX.out rfl) h.bel; have u2 : W.cell? ⟨P, 2, none⟩ = some (.int .i64 a1) := cell_step (blk_cell HEX.out rfl) h.bel; have u3 : W.cell? ⟨P, 3, none⟩ = some (.int .i64 b1) := cell_step (blk_cell HEX.out rfl) h.bel; have u4 : W.cell? ⟨P, 4, none⟩ = some (.string nm) := cell_step (blk_cell HEX.out rfl) h.bel; have u5 : W.cell? ⟨P, 5, none⟩ = some (.string ot) := cell_step (blk_cell HEX.out rfl) h.bel; obtain ⟨aq, cq, rfl, hq0⟩ := h.o0 rfl
          intro K Q hK
          simp only [putE, updAll, Act.put, List.setIfInBounds_toArray, List.set_cons_zero, List.set_cons_succ, List.set_nil] at hK ⊢
          go_wp2_with (go_at_call 50; refine (CC.out _ h.bel hq0).mono ?_; rintro e w9 ⟨rfl, hb9⟩)
          all_goals (first | exact hK _ (⟨bStep h.bel hb9, fun e => by obtain ⟨q1, q2, q3, q4⟩ := h.o0 e; exact ⟨q1, q2, q3, q4.step hb9⟩⟩ : EvS w1 he _ _ w9) | exact (⟨bStep h.bel hb9, fun e => by obtain ⟨q1, q2, q3, q4⟩ := h.o0 e; exact ⟨q1, q2, q3, q4.step hb9⟩⟩ : EvS w1 he _ _ w9))
         all_goals
          intro bsE vsE W hlb hlv hnd h
          obtain ⟨b0, bsE0, rfl, hlb0⟩ := len_one hlb
          obtain ⟨v0, vsE0, rfl, hlv0⟩ := len_one hlv
          obtain rfl := len_nil hlb0
          obtain rfl := len_nil hlv0
          replace h : EvS w1 he b0 (v0) W := h
          clear hnd
          have HST := Lib.hid h
          have u0 : W.cell? ⟨P, 0, none⟩ = some (.int .i64 k) := cell_step (blk_cell HEX.out rfl) h.bel; have u1 : W.cell? ⟨P, 1, none⟩ = some (.int .i64 t) := cell_step (blk_cell HEX.out rfl) h.bel; have u2 : W.cell? ⟨P, 2, none⟩ = some (.int .i64 a1) := cell_step (blk_cell HEX.out rfl) h.bel; have u3 : W.cell? ⟨P, 3, none⟩ = some (.int .i64 b1) := cell_step (blk_cell HEX.out rfl) h.bel; have u4 : W.cell? ⟨P, 4, none⟩ = some (.string nm) := cell_step (blk_cell HEX.out rfl) h.bel; have u5 : W.cell? ⟨P, 5, none⟩ = some (.string ot) := cell_step (blk_cell HEX.out rfl) h.bel; have u6 : W.cell? ⟨P, 6, none⟩ = some (.int .i64 (n : Int)) := cell_step (blk_cell HEX.out rfl) h.bel; have u7 : W.cell? ⟨P, 7, none⟩ = some (.int .i64 pad) := cell_step (blk_cell HEX.out rfl) h.bel; have ul := Nat.lt_of_lt_of_le (blk_lt HEX.out) h.bel.size
          intro K Q hK
          simp only [putE, updAll, Act.put, List.setIfInBounds_toArray, List.set_cons_zero, List.set_cons_succ, List.set_nil] at hK ⊢
          go_wp2_with (fail)
          all_goals (first | exact hK _ h | exact h)
        case done =>
         intro vsE W hlv h
         obtain ⟨v0, vsE0, rfl, hlv0⟩ := len_one hlv
         obtain rfl := len_nil hlv0
         replace h : EvS w1 he true (v0) W := h
         have HST := Lib.hid h
         have H9 := Lib.hid h.bel
         clear h HST
         simp only [putE, updAll, Act.put, List.setIfInBounds_toArray, List.set_cons_zero, List.set_cons_succ, List.set_nil]
         go_wp2_with fail
         exact bodyPost_ret (v := .tuple #[.int .i64 (i : Int), .bool false, .int .i64 0]) (by simp only [results, Tryz.results13]; go_simp) rfl ⟨by rw [HF.out, decide_eq_false HNE.out], bStep HB1.out H9.out⟩
       ·obtain ⟨m, rfl⟩ := Int.eq_ofNat_of_zero_le (show 0 ≤ pad by omega)
        clear h3
        obtain ⟨bk, hbk⟩ : ∃ bk, bks[n]? = some bk := ⟨bks[n]'H2.out, List.getElem?_eq_getElem H2.out⟩
        have HBK := Lib.hid hbk
        have hgd : bks.getD n (0, []) = bk := by rw [List.getD_eq_getElem?_getD, hbk]; rfl
        have HGD := Lib.hid hgd
        obtain ⟨s0, vp, s1, hpv⟩ := HBC.out n bk hbk
        obtain ⟨ap, cp, rfl, hpc⟩ := hpv
        have HS2 : Hid (w1.cell? ⟨bb, ob + n * 2 + 1, none⟩ = some (.slice ap bk.2.length cp)) := cell_step s1 HB1.out
        clear s0 s1 hpc hbk hgd
        have hm1 : (bks.length : Int) - 1 = (lb : Int) := by have := HLB.out; omega
        have hm2 : IntKind.i64.wrap (lb : Int) = (lb : Int) := Go.IntWalk.i64_in _ ⟨by omega, by have := HS.out.2.2.1; have := HLB.out; omega⟩
        have hm3 : min (n : Int) (lb : Int) = (n : Int) := by have := H2.out; have := HLB.out; omega
        have hm4 : max (0 : Int) (n : Int) = (n : Int) := by omega
        by_cases h4 : bk.2.length ≤ m
        ·have h4i : (bk.2.length : Int) ≤ m := by omega
         have HF := Lib.hid (HST0.out (rt_3 (by dsimp only; rw [Int.toNat_natCast, HGD.out]; omega)))
         clear h4
         refine region_gall 49 50 129 [(9, 46)] [(none, []), (none, []), (none, []), (none, []), (none, []), (none, []), (none, []), (none, []), (none, []), (some 0, []), (none, []), (none, []), (none, [0]), (none, []), (none, []), (none, []), (none, []), (none, []), (none, []), (none, []), (none, []), (none, []), (none, []), (none, []), (none, []), (none, []), (none, []), (none, []), (none, []), (none, []), (none, []), (none, []), (none, []), (none, []), (none, []), (none, []), (none, []), (none, []), (none, []), (none, []), (none, []), (none, []), (none, []), (none, []), (none, []), (none, []), (none, []), (none, []), (none, [])] [(37, (.pointer (some ⟨P, 0, none⟩))), (38, (.agg #[.int .i64 k, .int .i64 t, .int .i64 a1, .int .i64 b1, .string nm, .string ot])), (39, (.int .i64 0)), (40, (.bool false)), (41, (.bool false)), (42, (.string name)), (43, (.slice (some ⟨b, off, none⟩) es.length c)), (44, (.int .i64 (i : Int))), (45, (.slice (some ⟨b, off, none⟩) i c)), (47, (.pointer (some ⟨P, 0, none⟩))), (48, (.agg #[.int .i64 k, .int .i64 t, .int .i64 a1, .int .i64 b1, .string nm, .string ot])), (49, (.bool true)), (50, (.bool false)), (51, (.bool false)), (52, (.bool false)), (53, (.pointer (some ⟨P, 6, none⟩))), (54, (.int .i64 (n : Int))), (55, (.bool false)), (56, (.bool false)), (57, (.bool false)), (58, (.pointer (some ⟨P, 6, none⟩))), (59, (.int .i64 (n : Int))), (60, (.slice (some ⟨bb, ob, none⟩) bks.length cb)), (61, (.int .i64 (bks.length : Int))), (62, (.bool false)), (63, (.bool false)), (64, (.bool false)), (65, (.pointer (some ⟨P, 7, none⟩))), (66, (.int .i64 (m : Int))), (67, (.bool false)), (68, (.bool false)), (69, (.bool false)), (70, (.pointer (some ⟨P, 7, none⟩))), (71, (.int .i64 (m : Int))), (72, (.slice (some ⟨bb, ob, none⟩) bks.length cb)), (73, (.pointer (some ⟨P, 6, none⟩))), (74, (.int .i64 (n : Int))), (75, (.slice (some ⟨bb, ob, none⟩) bks.length cb)), (76, (.int .i64 (bks.length : Int))), (77, (.int .i64 (lb : Int))), (78, (.int .i64 (n : Int))), (79, (.int .i64 (n : Int))), (80, (.pointer (some ⟨bb, ob + n * 2, none⟩))), (81, (.pointer (some ⟨bb, ob + n * 2 + 1, none⟩))), (82, (.slice ap bk.2.length cp)), (83, (.int .i64 (bk.2.length : Int))), (84, (.bool true)), (85, (.bool true))] (fun bsE vsE W => EvS w1 he (bsE.getD 0 false) ((vsE.getD 0 undef)) W) (by kernel_rfl) (by kernel_rfl) rfl rfl (by kernel_rfl) (by rfl) ?h0 ?each ?done
         case h0 =>
          intro vsE hlv
          obtain ⟨v0, vsE0, rfl, hlv0⟩ := len_one hlv
          obtain rfl := len_nil hlv0
          exact ⟨(Below.refl _ _).drew, fun e => by cases e⟩
         case each =>
          simp only [AllE]
          refine ⟨Or.inr ⟨Or.inl rfl, 37, (.pointer (some ⟨P, 0, none⟩)), rfl, by kernel_rfl, ?_⟩, Or.inr ⟨Or.inl rfl, 38, (.agg #[.int .i64 k, .int .i64 t, .int .i64 a1, .int .i64 b1, .string nm, .string ot]), rfl, by kernel_rfl, ?_⟩, Or.inr ⟨Or.inl rfl, 39, (.int .i64 0), rfl, by kernel_rfl, ?q5_2⟩, Or.inr ⟨Or.inl rfl, 40, (.bool false), rfl, by kernel_rfl, ?_⟩, Or.inr ⟨Or.inl rfl, 41, (.bool false), rfl, by kernel_rfl, ?_⟩, Or.inr ⟨Or.inr ⟨_, _, _, rfl, rfl, by kernel_rfl⟩, 42, (.string name), rfl, by kernel_rfl, ?_⟩, Or.inr ⟨Or.inr ⟨_, _, _, rfl, rfl, by kernel_rfl⟩, 43, (.slice (some ⟨b, off, none⟩) es.length c), rfl, by kernel_rfl, ?_⟩, Or.inr ⟨Or.inr ⟨_, _, _, rfl, rfl, by kernel_rfl⟩, 44, (.int .i64 (i : Int)), rfl, by kernel_rfl, ?_⟩, Or.inr ⟨Or.inr ⟨_, _, _, rfl, rfl, by kernel_rfl⟩, 45, (.slice (some ⟨b, off, none⟩) i c), rfl, by kernel_rfl, ?_⟩, ⟨Or.inr ⟨_, _, _, rfl, rfl, by kernel_rfl⟩, Or.inl ⟨46, rfl, ?q5_9⟩⟩, Or.inr ⟨Or.inr ⟨_, _, _, rfl, rfl, by kernel_rfl⟩, 47, (.pointer (some ⟨P, 0, none⟩)), rfl, by kernel_rfl, ?_⟩, Or.inr ⟨Or.inr ⟨_, _, _, rfl, rfl, by kernel_rfl⟩, 48, (.agg #[.int .i64 k, .int .i64 t, .int .i64 a1, .int .i64 b1, .string nm, .string ot]), rfl, by kernel_rfl, ?_⟩, Or.inr ⟨Or.inr ⟨_, _, _, rfl, rfl, by kernel_rfl⟩, 49, (.bool true), rfl, by kernel_rfl, ?q5_12⟩, Or.inr ⟨Or.inr ⟨_, _, _, rfl, rfl, by kernel_rfl⟩, 50, (.bool false), rfl, by kernel_rfl, ?_⟩, Or.inr ⟨Or.inl rfl, 51, (.bool false), rfl, by kernel_rfl, ?_⟩, Or.inr ⟨Or.inl rfl, 52, (.bool false), rfl, by kernel_rfl, ?_⟩, Or.inr ⟨Or.inr ⟨_, _, _, rfl, rfl, by kernel_rfl⟩, 53, (.pointer (some ⟨P, 6, none⟩)), rfl, by kernel_rfl, ?_⟩, Or.inr ⟨Or.inr ⟨_, _, _, rfl, rfl, by kernel_rfl⟩, 54, (.int .i64 (n : Int)), rfl, by kernel_rfl, ?_⟩, Or.inr ⟨Or.inr ⟨_, _, _, rfl, rfl, by kernel_rfl⟩, 55, (.bool false), rfl, by kernel_rfl, ?_⟩, Or.inr ⟨Or.inl rfl, 56, (.bool false), rfl, by kernel_rfl, ?_⟩, Or.inr ⟨Or.inl rfl, 57, (.bool false), rfl, by kernel_rfl, ?_⟩, Or.inr ⟨Or.inr ⟨_, _, _, rfl, rfl, by kernel_rfl⟩, 58, (.pointer (some ⟨P, 6, none⟩)), rfl, by kernel_rfl, ?_⟩, Or.inr ⟨Or.inr ⟨_, _, _, rfl, rfl, by kernel_rfl⟩, 59, (.int .i64 (n : Int)), rfl, by kernel_rfl, ?_⟩, Or.inr ⟨Or.inr ⟨_, _, _, rfl, rfl, by kernel_rfl⟩, 60, (.slice (some ⟨bb, ob, none⟩) bks.length cb), rfl, by kernel_rfl, ?_⟩, Or.inr ⟨Or.inr ⟨_, _, _, rfl, rfl, by kernel_rfl⟩, 61, (.int .i64 (bks.length : Int)), rfl, by kernel_rfl, ?_⟩, Or.inr ⟨Or.inr ⟨_, _, _, rfl, rfl, by kernel_rfl⟩, 62, (.bool false), rfl, by kernel_rfl, ?_⟩, Or.inr ⟨Or.inl rfl, 63, (.bool false), rfl, by kernel_rfl, ?_⟩, Or.inr ⟨Or.inl rfl, 64, (.bool false), rfl, by kernel_rfl, ?_⟩, Or.inr ⟨Or.inr ⟨_, _, _, rfl, rfl, by kernel_rfl⟩, 65, (.pointer (some ⟨P, 7, none⟩)), rfl, by kernel_rfl, ?_⟩, Or.inr ⟨Or.inr ⟨_, _, _, rfl, rfl, by kernel_rfl⟩, 66, (.int .i64 (m : Int)), rfl, by kernel_rfl, ?_⟩, Or.inr ⟨Or.inr ⟨_, _, _, rfl, rfl, by kernel_rfl⟩, 67, (.bool false), rfl, by kernel_rfl, ?_⟩, Or.inr ⟨Or.inl rfl, 68, (.bool false), rfl, by kernel_rfl, ?_⟩, Or.inr ⟨Or.inl rfl, 69, (.bool false), rfl, by kernel_rfl, ?_⟩, Or.inr ⟨Or.inr ⟨_, _, _, rfl, rfl, by kernel_rfl⟩, 70, (.pointer (some ⟨P, 7, none⟩)), rfl, by kernel_rfl, ?_⟩, Or.inr ⟨Or.inr ⟨_, _, _, rfl, rfl, by kernel_rfl⟩, 71, (.int .i64 (m : Int)), rfl, by kernel_rfl, ?_⟩, Or.inr ⟨Or.inr ⟨_, _, _, rfl, rfl, by kernel_rfl⟩, 72, (.slice (some ⟨bb, ob, none⟩) bks.length cb), rfl, by kernel_rfl, ?_⟩, Or.inr ⟨Or.inr ⟨_, _, _, rfl, rfl, by kernel_rfl⟩, 73, (.pointer (some ⟨P, 6, none⟩)), rfl, by kernel_rfl, ?_⟩, Or.inr ⟨Or.inr ⟨_, _, _, rfl, rfl, by kernel_rfl⟩, 74, (.int .i64 (n : Int)), rfl, by kernel_rfl, ?_⟩, Or.inr ⟨Or.inr ⟨_, _, _, rfl, rfl, by kernel_rfl⟩, 75, (.slice (some ⟨bb, ob, none⟩) bks.length cb), rfl, by kernel_rfl, ?_⟩, Or.inr ⟨Or.inr ⟨_, _, _, rfl, rfl, by kernel_rfl⟩, 76, (.int .i64 (bks.length : Int)), rfl, by kernel_rfl, ?_⟩, Or.inr ⟨Or.inr ⟨_, _, _, rfl, rfl, by kernel_rfl⟩, 77, (.int .i64 (lb : Int)), rfl, by kernel_rfl, ?_⟩, Or.inr ⟨Or.inr ⟨_, _, _, rfl, rfl, by kernel_rfl⟩, 78, (.int .i64 (n : Int)), rfl, by kernel_rfl, ?_⟩, Or.inr ⟨Or.inr ⟨_, _, _, rfl, rfl, by kernel_rfl⟩, 79, (.int .i64 (n : Int)), rfl, by kernel_rfl, ?_⟩, Or.inr ⟨Or.inr ⟨_, _, _, rfl, rfl, by kernel_rfl⟩, 80, (.pointer (some ⟨bb, ob + n * 2, none⟩)), rfl, by kernel_rfl, ?_⟩, Or.inr ⟨Or.inr ⟨_, _, _, rfl, rfl, by kernel_rfl⟩, 81, (.pointer (some ⟨bb, ob + n * 2 + 1, none⟩)), rfl, by kernel_rfl, ?_⟩, Or.inr ⟨Or.inr ⟨_, _, _, rfl, rfl, by kernel_rfl⟩, 82, (.slice ap bk.2.length cp), rfl, by kernel_rfl, ?_⟩, Or.inr ⟨Or.inr ⟨_, _, _, rfl, rfl, by kernel_rfl⟩, 83, (.int .i64 (bk.2.length : Int)), rfl, by kernel_rfl, ?_⟩, Or.inr ⟨Or.inr ⟨_, _, _, rfl, rfl, by kernel_rfl⟩, 84, (.bool true), rfl, by kernel_rfl, ?_⟩, Or.inr ⟨Or.inl rfl, 85, (.bool true), rfl, by kernel_rfl, ?_⟩, trivial⟩
          case q5_2 =>
           intro bsE vsE W hlb hlv hnd h
           obtain ⟨b0, bsE0, rfl, hlb0⟩ := len_one hlb
           obtain ⟨v0, vsE0, rfl, hlv0⟩ := len_one hlv
           obtain rfl := len_nil hlb0
           obtain rfl := len_nil hlv0
           replace h : EvS w1 he b0 (v0) W := h
           clear hnd
           have HST := Lib.hid h
           have u0 : W.cell? ⟨P, 0, none⟩ = some (.int .i64 k) := cell_step (blk_cell HEX.out rfl) h.bel; have u1 : W.cell? ⟨P, 1, none⟩ = some (.int .i64 t) := cell_step (blk_cell HEX.out rfl) h.bel; have u2 : W.cell? ⟨P, 2, none⟩ = some (.int .i64 a1) := cell_step (blk_cell HEX.out rfl) h.bel; have u3 : W.cell? ⟨P, 3, none⟩ = some (.int .i64 b1) := cell_step (blk_cell HEX.out rfl) h.bel; have u4 : W.cell? ⟨P, 4, none⟩ = some (.string nm) := cell_step (blk_cell HEX.out rfl) h.bel; have u5 : W.cell? ⟨P, 5, none⟩ = some (.string ot) := cell_step (blk_cell HEX.out rfl) h.bel; have u6 : W.cell? ⟨P, 6, none⟩ = some (.int .i64 (n : Int)) := cell_step (blk_cell HEX.out rfl) h.bel; have u7 : W.cell? ⟨P, 7, none⟩ = some (.int .i64 (m : Int)) := cell_step (blk_cell HEX.out rfl) h.bel; have ul := Nat.lt_of_lt_of_le (blk_lt HEX.out) h.bel.size; have s2 := cell_step HS2.out h.bel
           intro K Q hK
           simp only [putE, updAll, Act.put, List.setIfInBounds_toArray, List.set_cons_zero, List.set_cons_succ, List.set_nil] at hK ⊢
           go_wp2_with (go_at_call 49; refine (CK.out _ h.bel).mono ?_; rintro e w9 ⟨rfl, hb9⟩)
           all_goals (first | exact hK _ (⟨bStep h.bel hb9, fun e => by obtain ⟨q1, q2, q3, q4⟩ := h.o0 e; exact ⟨q1, q2, q3, q4.step hb9⟩⟩ : EvS w1 he b0 v0 w9) | exact (⟨bStep h.bel hb9, fun e => by obtain ⟨q1, q2, q3, q4⟩ := h.o0 e; exact ⟨q1, q2, q3, q4.step hb9⟩⟩ : EvS w1 he b0 v0 w9))
          case q5_9 =>
           intro bsE vsE W hlb hlv hnd hbk h
           obtain ⟨b0, bsE0, rfl, hlb0⟩ := len_one hlb
           obtain ⟨v0, vsE0, rfl, hlv0⟩ := len_one hlv
           obtain rfl := len_nil hlb0
           obtain rfl := len_nil hlv0
           obtain rfl : b0 = false := hbk
           replace h : EvS w1 he false (v0) W := h
           clear hnd
           have HST := Lib.hid h
           skip
           intro K Q hK
           simp only [putE, updAll, Act.put, List.setIfInBounds_toArray, List.set_cons_zero, List.set_cons_succ, List.set_nil] at hK ⊢
           go_wp2_with (go_at_call 51; refine (CE.out _ h.bel).mono ?_; rintro e w9 ⟨vq, rfl, ho9, hb9⟩)
           all_goals (have hm : EvS w1 he true vq w9 := ⟨bStep h.bel hb9, fun _ => ho9⟩)
           all_goals (first | exact hK _ _ hm | exact hm)
          case q5_12 =>
           intro bsE vsE W hlb hlv hnd h
           obtain ⟨b0, bsE0, rfl, hlb0⟩ := len_one hlb
           obtain ⟨v0, vsE0, rfl, hlv0⟩ := len_one hlv
           obtain rfl := len_nil hlb0
           obtain rfl := len_nil hlv0
           obtain rfl : b0 = true := hnd 0 (by simp)
           replace h : EvS w1 he true (v0) W := h
           clear hnd
           have HST := Lib.hid h
           have u0 : W.cell? ⟨P, 0, none⟩ = some (.int .i64 k) := cell_step (blk_cell HEX.out rfl) h.bel; have u1 : W.cell? ⟨P, 1, none⟩ = some (.int .i64 t) := cell_step (blk_cell HEX.out rfl) h.bel; have u2 : W.cell? ⟨P, 2, none⟩ = some (.int .i64 a1) := cell_step (blk_cell HEX.out rfl) h.bel; have u3 : W.cell? ⟨P, 3, none⟩ = some (.int .i64 b1) := cell_step (blk_cell HEX.out rfl) h.bel; have u4 : W.cell? ⟨P, 4, none⟩ = some (.string nm) := cell_step (blk_cell HEX.out rfl) h.bel; have u5 : W.cell? ⟨P, 5, none⟩ = some (.string ot) := cell_step (blk_cell HEX.out rfl) h.bel; obtain ⟨aq, cq, rfl, hq0⟩ := h.o0 rfl
           intro K Q hK
           simp only [putE, updAll, Act.put, List.setIfInBounds_toArray, List.set_cons_zero, List.set_cons_succ, List.set_nil] at hK ⊢
           go_wp2_with (go_at_call 50; refine (CC.out _ h.bel hq0).mono ?_; rintro e w9 ⟨rfl, hb9⟩)
           all_goals (first | exact hK _ (⟨bStep h.bel hb9, fun e => by obtain ⟨q1, q2, q3, q4⟩ := h.o0 e; exact ⟨q1, q2, q3, q4.step hb9⟩⟩ : EvS w1 he _ _ w9) | exact (⟨bStep h.bel hb9, fun e => by obtain ⟨q1, q2, q3, q4⟩ := h.o0 e; exact ⟨q1, q2, q3, q4.step hb9⟩⟩ : EvS w1 he _ _ w9))
          all_goals
           intro bsE vsE W hlb hlv hnd h
           obtain ⟨b0, bsE0, rfl, hlb0⟩ := len_one hlb
           obtain ⟨v0, vsE0, rfl, hlv0⟩ := len_one hlv
           obtain rfl := len_nil hlb0
           obtain rfl := len_nil hlv0
           replace h : EvS w1 he b0 (v0) W := h
           clear hnd
           have HST := Lib.hid h
           have u0 : W.cell? ⟨P, 0, none⟩ = some (.int .i64 k) := cell_step (blk_cell HEX.out rfl) h.bel; have u1 : W.cell? ⟨P, 1, none⟩ = some (.int .i64 t) := cell_step (blk_cell HEX.out rfl) h.bel; have u2 : W.cell? ⟨P, 2, none⟩ = some (.int .i64 a1) := cell_step (blk_cell HEX.out rfl) h.bel; have u3 : W.cell? ⟨P, 3, none⟩ = some (.int .i64 b1) := cell_step (blk_cell HEX.out rfl) h.bel; have u4 : W.cell? ⟨P, 4, none⟩ = some (.string nm) := cell_step (blk_cell HEX.out rfl) h.bel; have u5 : W.cell? ⟨P, 5, none⟩ = some (.string ot) := cell_step (blk_cell HEX.out rfl) h.bel; have u6 : W.cell? ⟨P, 6, none⟩ = some (.int .i64 (n : Int)) := cell_step (blk_cell HEX.out rfl) h.bel; have u7 : W.cell? ⟨P, 7, none⟩ = some (.int .i64 (m : Int)) := cell_step (blk_cell HEX.out rfl) h.bel; have ul := Nat.lt_of_lt_of_le (blk_lt HEX.out) h.bel.size; have s2 := cell_step HS2.out h.bel
           intro K Q hK
           simp only [putE, updAll, Act.put, List.setIfInBounds_toArray, List.set_cons_zero, List.set_cons_succ, List.set_nil] at hK ⊢
           go_wp2_with (fail)
           all_goals (first | exact hK _ h | exact h)
         case done =>
          intro vsE W hlv h
          obtain ⟨v0, vsE0, rfl, hlv0⟩ := len_one hlv
          obtain rfl := len_nil hlv0
          replace h : EvS w1 he true (v0) W := h
          have HST := Lib.hid h
          have H9 := Lib.hid h.bel
          clear h HST
          simp only [putE, updAll, Act.put, List.setIfInBounds_toArray, List.set_cons_zero, List.set_cons_succ, List.set_nil]
          go_wp2_with fail
          exact bodyPost_ret (v := .tuple #[.int .i64 (i : Int), .bool false, .int .i64 0]) (by simp only [results, Tryz.results13]; go_simp) rfl ⟨by rw [HF.out, decide_eq_false HNE.out], bStep HB1.out H9.out⟩
        ·have h4i : ¬ (bk.2.length : Int) ≤ m := by omega
         have H4 := Lib.hid (show m < bk.2.length by omega)
         clear h4
         refine region_gall 49 50 129 [(9, 46)] [(none, []), (none, []), (none, []), (none, []), (none, []), (none, []), (none, []), (none, []), (none, []), (some 0, []), (none, []), (none, []), (none, [0]), (none, []), (none, []), (none, []), (none, []), (none, []), (none, []), (none, []), (none, []), (none, []), (none, []), (none, []), (none, []), (none, []), (none, []), (none, []), (none, []), (none, []), (none, []), (none, []), (none, []), (none, []), (none, []), (none, []), (none, []), (none, []), (none, []), (none, []), (none, []), (none, []), (none, []), (none, []), (none, []), (none, []), (none, []), (none, []), (none, [])] [(37, (.pointer (some ⟨P, 0, none⟩))), (38, (.agg #[.int .i64 k, .int .i64 t, .int .i64 a1, .int .i64 b1, .string nm, .string ot])), (39, (.int .i64 0)), (40, (.bool false)), (41, (.bool false)), (42, (.string name)), (43, (.slice (some ⟨b, off, none⟩) es.length c)), (44, (.int .i64 (i : Int))), (45, (.slice (some ⟨b, off, none⟩) i c)), (47, (.pointer (some ⟨P, 0, none⟩))), (48, (.agg #[.int .i64 k, .int .i64 t, .int .i64 a1, .int .i64 b1, .string nm, .string ot])), (49, (.bool true)), (50, (.bool false)), (51, (.bool false)), (52, (.bool false)), (53, (.pointer (some ⟨P, 6, none⟩))), (54, (.int .i64 (n : Int))), (55, (.bool false)), (56, (.bool false)), (57, (.bool false)), (58, (.pointer (some ⟨P, 6, none⟩))), (59, (.int .i64 (n : Int))), (60, (.slice (some ⟨bb, ob, none⟩) bks.length cb)), (61, (.int .i64 (bks.length : Int))), (62, (.bool false)), (63, (.bool false)), (64, (.bool false)), (65, (.pointer (some ⟨P, 7, none⟩))), (66, (.int .i64 (m : Int))), (67, (.bool false)), (68, (.bool false)), (69, (.bool false)), (70, (.pointer (some ⟨P, 7, none⟩))), (71, (.int .i64 (m : Int))), (72, (.slice (some ⟨bb, ob, none⟩) bks.length cb)), (73, (.pointer (some ⟨P, 6, none⟩))), (74, (.int .i64 (n : Int))), (75, (.slice (some ⟨bb, ob, none⟩) bks.length cb)), (76, (.int .i64 (bks.length : Int))), (77, (.int .i64 (lb : Int))), (78, (.int .i64 (n : Int))), (79, (.int .i64 (n : Int))), (80, (.pointer (some ⟨bb, ob + n * 2, none⟩))), (81, (.pointer (some ⟨bb, ob + n * 2 + 1, none⟩))), (82, (.slice ap bk.2.length cp)), (83, (.int .i64 (bk.2.length : Int))), (84, (.bool false)), (85, (.bool false))] (fun bsE vsE W => EvS w1 he (bsE.getD 0 false) ((vsE.getD 0 undef)) W) (by kernel_rfl) (by kernel_rfl) rfl rfl (by kernel_rfl) (by rfl) ?h0 ?each ?done
         case h0 =>
          intro vsE hlv
          obtain ⟨v0, vsE0, rfl, hlv0⟩ := len_one hlv
          obtain rfl := len_nil hlv0
          exact ⟨(Below.refl _ _).drew, fun e => by cases e⟩
         case each =>
          simp only [AllE]
          refine ⟨Or.inr ⟨Or.inl rfl, 37, (.pointer (some ⟨P, 0, none⟩)), rfl, by kernel_rfl, ?_⟩, Or.inr ⟨Or.inl rfl, 38, (.agg #[.int .i64 k, .int .i64 t, .int .i64 a1, .int .i64 b1, .string nm, .string ot]), rfl, by kernel_rfl, ?_⟩, Or.inr ⟨Or.inl rfl, 39, (.int .i64 0), rfl, by kernel_rfl, ?q6_2⟩, Or.inr ⟨Or.inl rfl, 40, (.bool false), rfl, by kernel_rfl, ?_⟩, Or.inr ⟨Or.inl rfl, 41, (.bool false), rfl, by kernel_rfl, ?_⟩, Or.inr ⟨Or.inr ⟨_, _, _, rfl, rfl, by kernel_rfl⟩, 42, (.string name), rfl, by kernel_rfl, ?_⟩, Or.inr ⟨Or.inr ⟨_, _, _, rfl, rfl, by kernel_rfl⟩, 43, (.slice (some ⟨b, off, none⟩) es.length c), rfl, by kernel_rfl, ?_⟩, Or.inr ⟨Or.inr ⟨_, _, _, rfl, rfl, by kernel_rfl⟩, 44, (.int .i64 (i : Int)), rfl, by kernel_rfl, ?_⟩, Or.inr ⟨Or.inr ⟨_, _, _, rfl, rfl, by kernel_rfl⟩, 45, (.slice (some ⟨b, off, none⟩) i c), rfl, by kernel_rfl, ?_⟩, ⟨Or.inr ⟨_, _, _, rfl, rfl, by kernel_rfl⟩, Or.inl ⟨46, rfl, ?q6_9⟩⟩, Or.inr ⟨Or.inr ⟨_, _, _, rfl, rfl, by kernel_rfl⟩, 47, (.pointer (some ⟨P, 0, none⟩)), rfl, by kernel_rfl, ?_⟩, Or.inr ⟨Or.inr ⟨_, _, _, rfl, rfl, by kernel_rfl⟩, 48, (.agg #[.int .i64 k, .int .i64 t, .int .i64 a1, .int .i64 b1, .string nm, .string ot]), rfl, by kernel_rfl, ?_⟩, Or.inr ⟨Or.inr ⟨_, _, _, rfl, rfl, by kernel_rfl⟩, 49, (.bool true), rfl, by kernel_rfl, ?q6_12⟩, Or.inr ⟨Or.inr ⟨_, _, _, rfl, rfl, by kernel_rfl⟩, 50, (.bool false), rfl, by kernel_rfl, ?_⟩, Or.inr ⟨Or.inl rfl, 51, (.bool false), rfl, by kernel_rfl, ?_⟩, Or.inr ⟨Or.inl rfl, 52, (.bool false), rfl, by kernel_rfl, ?_⟩, Or.inr ⟨Or.inr ⟨_, _, _, rfl, rfl, by kernel_rfl⟩, 53, (.pointer (some ⟨P, 6, none⟩)), rfl, by kernel_rfl, ?_⟩, Or.inr ⟨Or.inr ⟨_, _, _, rfl, rfl, by kernel_rfl⟩, 54, (.int .i64 (n : Int)), rfl, by kernel_rfl, ?_⟩, Or.inr ⟨Or.inr ⟨_, _, _, rfl, rfl, by kernel_rfl⟩, 55, (.bool false), rfl, by kernel_rfl, ?_⟩, Or.inr ⟨Or.inl rfl, 56, (.bool false), rfl, by kernel_rfl, ?_⟩, Or.inr ⟨Or.inl rfl, 57, (.bool false), rfl, by kernel_rfl, ?_⟩, Or.inr ⟨Or.inr ⟨_, _, _, rfl, rfl, by kernel_rfl⟩, 58, (.pointer (some ⟨P, 6, none⟩)), rfl, by kernel_rfl, ?_⟩, Or.inr ⟨Or.inr ⟨_, _, _, rfl, rfl, by kernel_rfl⟩, 59, (.int .i64 (n : Int)), rfl, by kernel_rfl, ?_⟩, Or.inr ⟨Or.inr ⟨_, _, _, rfl, rfl, by kernel_rfl⟩, 60, (.slice (some ⟨bb, ob, none⟩) bks.length cb), rfl, by kernel_rfl, ?_⟩, Or.inr ⟨Or.inr ⟨_, _, _, rfl, rfl, by kernel_rfl⟩, 61, (.int .i64 (bks.length : Int)), rfl, by kernel_rfl, ?_⟩, Or.inr ⟨Or.inr ⟨_, _, _, rfl, rfl, by kernel_rfl⟩, 62, (.bool false), rfl, by kernel_rfl, ?_⟩, Or.inr ⟨Or.inl rfl, 63, (.bool false), rfl, by kernel_rfl, ?_⟩, Or.inr ⟨Or.inl rfl, 64, (.bool false), rfl, by kernel_rfl, ?_⟩, Or.inr ⟨Or.inr ⟨_, _, _, rfl, rfl, by kernel_rfl⟩, 65, (.pointer (some ⟨P, 7, none⟩)), rfl, by kernel_rfl, ?_⟩, Or.inr ⟨Or.inr ⟨_, _, _, rfl, rfl, by kernel_rfl⟩, 66, (.int .i64 (m : Int)), rfl, by kernel_rfl, ?_⟩, Or.inr ⟨Or.inr ⟨_, _, _, rfl, rfl, by kernel_rfl⟩, 67, (.bool false), rfl, by kernel_rfl, ?_⟩, Or.inr ⟨Or.inl rfl, 68, (.bool false), rfl, by kernel_rfl, ?_⟩, Or.inr ⟨Or.inl rfl, 69, (.bool false), rfl, by kernel_rfl, ?_⟩, Or.inr ⟨Or.inr ⟨_, _, _, rfl, rfl, by kernel_rfl⟩, 70, (.pointer (some ⟨P, 7, none⟩)), rfl, by kernel_rfl, ?_⟩, Or.inr ⟨Or.inr ⟨_, _, _, rfl, rfl, by kernel_rfl⟩, 71, (.int .i64 (m : Int)), rfl, by kernel_rfl, ?_⟩, Or.inr ⟨Or.inr ⟨_, _, _, rfl, rfl, by kernel_rfl⟩, 72, (.slice (some ⟨bb, ob, none⟩) bks.length cb), rfl, by kernel_rfl, ?_⟩, Or.inr ⟨Or.inr ⟨_, _, _, rfl, rfl, by kernel_rfl⟩, 73, (.pointer (some ⟨P, 6, none⟩)), rfl, by kernel_rfl, ?_⟩, Or.inr ⟨Or.inr ⟨_, _, _, rfl, rfl, by kernel_rfl⟩, 74, (.int .i64 (n : Int)), rfl, by kernel_rfl, ?_⟩, Or.inr ⟨Or.inr ⟨_, _, _, rfl, rfl, by kernel_rfl⟩, 75, (.slice (some ⟨bb, ob, none⟩) bks.length cb), rfl, by kernel_rfl, ?_⟩, Or.inr ⟨Or.inr ⟨_, _, _, rfl, rfl, by kernel_rfl⟩, 76, (.int .i64 (bks.length : Int)), rfl, by kernel_rfl, ?_⟩, Or.inr ⟨Or.inr ⟨_, _, _, rfl, rfl, by kernel_rfl⟩, 77, (.int .i64 (lb : Int)), rfl, by kernel_rfl, ?_⟩, Or.inr ⟨Or.inr ⟨_, _, _, rfl, rfl, by kernel_rfl⟩, 78, (.int .i64 (n : Int)), rfl, by kernel_rfl, ?_⟩, Or.inr ⟨Or.inr ⟨_, _, _, rfl, rfl, by kernel_rfl⟩, 79, (.int .i64 (n : Int)), rfl, by kernel_rfl, ?_⟩, Or.inr ⟨Or.inr ⟨_, _, _, rfl, rfl, by kernel_rfl⟩, 80, (.pointer (some ⟨bb, ob + n * 2, none⟩)), rfl, by kernel_rfl, ?_⟩, Or.inr ⟨Or.inr ⟨_, _, _, rfl, rfl, by kernel_rfl⟩, 81, (.pointer (some ⟨bb, ob + n * 2 + 1, none⟩)), rfl, by kernel_rfl, ?_⟩, Or.inr ⟨Or.inr ⟨_, _, _, rfl, rfl, by kernel_rfl⟩, 82, (.slice ap bk.2.length cp), rfl, by kernel_rfl, ?_⟩, Or.inr ⟨Or.inr ⟨_, _, _, rfl, rfl, by kernel_rfl⟩, 83, (.int .i64 (bk.2.length : Int)), rfl, by kernel_rfl, ?_⟩, Or.inr ⟨Or.inr ⟨_, _, _, rfl, rfl, by kernel_rfl⟩, 84, (.bool false), rfl, by kernel_rfl, ?_⟩, Or.inr ⟨Or.inl rfl, 85, (.bool false), rfl, by kernel_rfl, ?_⟩, trivial⟩
          case q6_2 =>
           intro bsE vsE W hlb hlv hnd h
           obtain ⟨b0, bsE0, rfl, hlb0⟩ := len_one hlb
           obtain ⟨v0, vsE0, rfl, hlv0⟩ := len_one hlv
           obtain rfl := len_nil hlb0
           obtain rfl := len_nil hlv0
           replace h : EvS w1 he b0 (v0) W := h
           clear hnd
           have HST := Lib.hid h
           have u0 : W.cell? ⟨P, 0, none⟩ = some (.int .i64 k) := cell_step (blk_cell HEX.out rfl) h.bel; have u1 : W.cell? ⟨P, 1, none⟩ = some (.int .i64 t) := cell_step (blk_cell HEX.out rfl) h.bel; have u2 : W.cell? ⟨P, 2, none⟩ = some (.int .i64 a1) := cell_step (blk_cell HEX.out rfl) h.bel; have u3 : W.cell? ⟨P, 3, none⟩ = some (.int .i64 b1) := cell_step (blk_cell HEX.out rfl) h.bel; have u4 : W.cell? ⟨P, 4, none⟩ = some (.string nm) := cell_step (blk_cell HEX.out rfl) h.bel; have u5 : W.cell? ⟨P, 5, none⟩ = some (.string ot) := cell_step (blk_cell HEX.out rfl) h.bel; have u6 : W.cell? ⟨P, 6, none⟩ = some (.int .i64 (n : Int)) := cell_step (blk_cell HEX.out rfl) h.bel; have u7 : W.cell? ⟨P, 7, none⟩ = some (.int .i64 (m : Int)) := cell_step (blk_cell HEX.out rfl) h.bel; have ul := Nat.lt_of_lt_of_le (blk_lt HEX.out) h.bel.size; have s2 := cell_step HS2.out h.bel
           intro K Q hK
           simp only [putE, updAll, Act.put, List.setIfInBounds_toArray, List.set_cons_zero, List.set_cons_succ, List.set_nil] at hK ⊢
           go_wp2_with (go_at_call 49; refine (CK.out _ h.bel).mono ?_; rintro e w9 ⟨rfl, hb9⟩)
           all_goals (first | exact hK _ (⟨bStep h.bel hb9, fun e => by obtain ⟨q1, q2, q3, q4⟩ := h.o0 e; exact ⟨q1, q2, q3, q4.step hb9⟩⟩ : EvS w1 he b0 v0 w9) | exact (⟨bStep h.bel hb9, fun e => by obtain ⟨q1, q2, q3, q4⟩ := h.o0 e; exact ⟨q1, q2, q3, q4.step hb9⟩⟩ : EvS w1 he b0 v0 w9))
          case q6_9 =>
           intro bsE vsE W hlb hlv hnd hbk h
           obtain ⟨b0, bsE0, rfl, hlb0⟩ := len_one hlb
           obtain ⟨v0, vsE0, rfl, hlv0⟩ := len_one hlv
           obtain rfl := len_nil hlb0
           obtain rfl := len_nil hlv0
           obtain rfl : b0 = false := hbk
           replace h : EvS w1 he false (v0) W := h
           clear hnd
           have HST := Lib.hid h
           skip
           intro K Q hK
           simp only [putE, updAll, Act.put, List.setIfInBounds_toArray, List.set_cons_zero, List.set_cons_succ, List.set_nil] at hK ⊢
           go_wp2_with (go_at_call 51; refine (CE.out _ h.bel).mono ?_; rintro e w9 ⟨vq, rfl, ho9, hb9⟩)
           all_goals (have hm : EvS w1 he true vq w9 := ⟨bStep h.bel hb9, fun _ => ho9⟩)
           all_goals (first | exact hK _ _ hm | exact hm)
          case q6_12 =>
           intro bsE vsE W hlb hlv hnd h
           obtain ⟨b0, bsE0, rfl, hlb0⟩ := len_one hlb
           obtain ⟨v0, vsE0, rfl, hlv0⟩ := len_one hlv
           obtain rfl := len_nil hlb0
           obtain rfl := len_nil hlv0
           obtain rfl : b0 = true := hnd 0 (by simp)
           replace h : EvS w1 he true (v0) W := h
           clear hnd
           have HST := Lib.hid h
           have u0 : W.cell? ⟨P, 0, none⟩ = some (.int .i64 k) := cell_step (blk_cell HEX.out rfl) h.bel; have u1 : W.cell? ⟨P, 1, none⟩ = some (.int .i64 t) := cell_step (blk_cell HEX.out rfl) h.bel; have u2 : W.cell? ⟨P, 2, none⟩ = some (.int .i64 a1) := cell_step (blk_cell HEX.out rfl) h.bel; have u3 : W.cell? ⟨P, 3, none⟩ = some (.int .i64 b1) := cell_step (blk_cell HEX.out rfl) h.bel; have u4 : W.cell? ⟨P, 4, none⟩ = some (.string nm) := cell_step (blk_cell HEX.out rfl) h.bel; have u5 : W.cell? ⟨P, 5, none⟩ = some (.string ot) := cell_step (blk_cell HEX.out rfl) h.bel; obtain ⟨aq, cq, rfl, hq0⟩ := h.o0 rfl
           intro K Q hK
           simp only [putE, updAll, Act.put, List.setIfInBounds_toArray, List.set_cons_zero, List.set_cons_succ, List.set_nil] at hK ⊢
           go_wp2_with (go_at_call 50; refine (CC.out _ h.bel hq0).mono ?_; rintro e w9 ⟨rfl, hb9⟩)
           all_goals (first | exact hK _ (⟨bStep h.bel hb9, fun e => by obtain ⟨q1, q2, q3, q4⟩ := h.o0 e; exact ⟨q1, q2, q3, q4.step hb9⟩⟩ : EvS w1 he _ _ w9) | exact (⟨bStep h.bel hb9, fun e => by obtain ⟨q1, q2, q3, q4⟩ := h.o0 e; exact ⟨q1, q2, q3, q4.step hb9⟩⟩ : EvS w1 he _ _ w9))
          all_goals
           intro bsE vsE W hlb hlv hnd h
           obtain ⟨b0, bsE0, rfl, hlb0⟩ := len_one hlb
           obtain ⟨v0, vsE0, rfl, hlv0⟩ := len_one hlv
           obtain rfl := len_nil hlb0
           obtain rfl := len_nil hlv0
           replace h : EvS w1 he b0 (v0) W := h
           clear hnd
           have HST := Lib.hid h
           have u0 : W.cell? ⟨P, 0, none⟩ = some (.int .i64 k) := cell_step (blk_cell HEX.out rfl) h.bel; have u1 : W.cell? ⟨P, 1, none⟩ = some (.int .i64 t) := cell_step (blk_cell HEX.out rfl) h.bel; have u2 : W.cell? ⟨P, 2, none⟩ = some (.int .i64 a1) := cell_step (blk_cell HEX.out rfl) h.bel; have u3 : W.cell? ⟨P, 3, none⟩ = some (.int .i64 b1) := cell_step (blk_cell HEX.out rfl) h.bel; have u4 : W.cell? ⟨P, 4, none⟩ = some (.string nm) := cell_step (blk_cell HEX.out rfl) h.bel; have u5 : W.cell? ⟨P, 5, none⟩ = some (.string ot) := cell_step (blk_cell HEX.out rfl) h.bel; have u6 : W.cell? ⟨P, 6, none⟩ = some (.int .i64 (n : Int)) := cell_step (blk_cell HEX.out rfl) h.bel; have u7 : W.cell? ⟨P, 7, none⟩ = some (.int .i64 (m : Int)) := cell_step (blk_cell HEX.out rfl) h.bel; have ul := Nat.lt_of_lt_of_le (blk_lt HEX.out) h.bel.size; have s2 := cell_step HS2.out h.bel
           intro K Q hK
           simp only [putE, updAll, Act.put, List.setIfInBounds_toArray, List.set_cons_zero, List.set_cons_succ, List.set_nil] at hK ⊢
           go_wp2_with (fail)
           all_goals (first | exact hK _ h | exact h)
         case done =>
          intro vsE W hlv h
          obtain ⟨v0, vsE0, rfl, hlv0⟩ := len_one hlv
          obtain rfl := len_nil hlv0
          replace h : EvS w1 he true (v0) W := h
          have HST := Lib.hid h
          have H9 := Lib.hid h.bel
          clear h HST
          simp only [putE, updAll, Act.put, List.setIfInBounds_toArray, List.set_cons_zero, List.set_cons_succ, List.set_nil]
          go_wp2_with fail
          go_loopw [14] (fun jx wr => ∃ j : Nat, j ≤ i ∧ jx = .int .i64 j ∧ Hid (prHas ((prOf es).take j) (n : Int) (m : Int) = false) ∧ Hid (Below w1.heap.size w1 wr)) (fun jx _ => i - (intOf jx).toNat)
          case atStart => exact ⟨0, by omega, rfl, rfl, H9⟩
          case round =>
           clear H9
           obtain ⟨j, hj, rfl, HPR, HJ⟩ := hrel
           have HBJ := Lib.hid (bStep HB1.out HJ.out)
           by_cases hcj : j < i
           ·have j1 : (j : Int) < i := by omega
            have j2 : (j : Int) < es.length := by omega
            have j3 : j < es.length := by omega
            have j0 : (0 : Int) ≤ j := by omega
            obtain ⟨y2, hk2⟩ : ∃ y2, es[j]? = some y2 := ⟨es[j]'j3, List.getElem?_eq_getElem j3⟩
            have HPT : Hid ((prOf es)[j]? = some (y2.2.1, y2.2.2.1)) := by unfold Hid prOf; rw [List.getElem?_map, hk2]; rfl
            obtain ⟨e2, by2, pad2, head2, tag2⟩ := y2
            have d6a : w.cell? ⟨b, off + j * 10 + 6, none⟩ = some (.int .i64 by2) := HCS.out j _ hk2 6 _ (by obtain ⟨q1, q2, q3, q4, q5, q6⟩ := e2; rfl)
            have d7a : w.cell? ⟨b, off + j * 10 + 7, none⟩ = some (.int .i64 pad2) := HCS.out j _ hk2 7 _ (by obtain ⟨q1, q2, q3, q4, q5, q6⟩ := e2; rfl)
            have d6 := fun s : WStep wr => cell_step d6a (bStep HBJ.out s.2)
            have d7 := fun s : WStep wr => cell_step d7a (bStep HBJ.out s.2)
            have e6 : ∀ s : WStep wr, s.1.cell? ⟨P, 6, none⟩ = some (.int .i64 (n : Int)) := fun s => cell_step (blk_cell HEX.out rfl) (bStep HJ.out s.2)
            have e7 : ∀ s : WStep wr, s.1.cell? ⟨P, 7, none⟩ = some (.int .i64 (m : Int)) := fun s => cell_step (blk_cell HEX.out rfl) (bStep HJ.out s.2)
            have HCJ := Lib.hid hcj
            clear hk2 d6a d7a hcj
            cases hq : (by2 == (n : Int))
            ·have HP2 := Lib.hid (prHas_take HPR.out HPT.out (by dsimp only; rw [Bool.beq_comm (a := (n : Int)), hq]; rfl))
             go_upto_region 17 with fail
             refine wp_region_lock (by kernel_rfl) (by kernel_rfl) ?_
             repeat (first | (refine WQ.skip rfl rfl rfl rfl ?_; simp only [Act.put, List.setIfInBounds_toArray, List.set_cons_zero, List.set_cons_succ, List.set_nil]) | ((first | (apply WQ.val; (exact rfl)) | (apply WQ.valg; (exact rfl); (exact rfl); (exact rfl))); (intro w9 hw9; obtain ⟨s9, rfl⟩ := hw9; simp [go_sem, d6, d7, e6, e7, j1, j2, j3, j0, hq]; first | done | exact rfl); simp only [Act.put, List.setIfInBounds_toArray, List.set_cons_zero, List.set_cons_succ, List.set_nil]))
             refine WQ.fin fun W5 hW5 => ?_
             go_wp2_with fail
             exact ⟨⟨j + 1, by have := HCJ.out; omega, by push_cast; rfl, HP2, bStep HJ.out hW5⟩, by have := HCJ.out; simp [intOf]; omega⟩
            ·cases hp : (pad2 == (m : Int))
             ·have HP2 := Lib.hid (prHas_take HPR.out HPT.out (by dsimp only; rw [Bool.beq_comm (a := (m : Int)), hp, Bool.and_false]))
              go_upto_region 17 with fail
              refine wp_region_lock (by kernel_rfl) (by kernel_rfl) ?_
              repeat (first | (refine WQ.skip rfl rfl rfl rfl ?_; simp only [Act.put, List.setIfInBounds_toArray, List.set_cons_zero, List.set_cons_succ, List.set_nil]) | ((first | (apply WQ.val; (exact rfl)) | (apply WQ.valg; (exact rfl); (exact rfl); (exact rfl))); (intro w9 hw9; obtain ⟨s9, rfl⟩ := hw9; simp [go_sem, d6, d7, e6, e7, j1, j2, j3, j0, hq, hp]; first | done | exact rfl); simp only [Act.put, List.setIfInBounds_toArray, List.set_cons_zero, List.set_cons_succ, List.set_nil]))
              refine WQ.fin fun W5 hW5 => ?_
              go_wp2_with fail
              exact ⟨⟨j + 1, by have := HCJ.out; omega, by push_cast; rfl, HP2, bStep HJ.out hW5⟩, by have := HCJ.out; simp [intOf]; omega⟩
             ·have HF := Lib.hid (HST0.out (rt_4 (List.any_eq_true.2 ⟨(by2, pad2), by
               have h9 : ((prOf es).take i)[j]? = some (by2, pad2) := by rw [List.getElem?_take_of_lt HCJ.out]; exact HPT.out
               have h8 := List.mem_of_getElem? h9
               unfold prOf at h8 ⊢
               rw [← List.map_take] at h8
               exact h8, by dsimp only; rw [Bool.beq_comm (a := (n : Int)), hq, Bool.beq_comm (a := (m : Int)), hp]; rfl⟩)))
              go_upto_region 17 with fail
              refine wp_region_lock (by kernel_rfl) (by kernel_rfl) ?_
              repeat (first | (refine WQ.skip rfl rfl rfl rfl ?_; simp only [Act.put, List.setIfInBounds_toArray, List.set_cons_zero, List.set_cons_succ, List.set_nil]) | ((first | (apply WQ.val; (exact rfl)) | (apply WQ.valg; (exact rfl); (exact rfl); (exact rfl))); (intro w9 hw9; obtain ⟨s9, rfl⟩ := hw9; simp [go_sem, d6, d7, e6, e7, j1, j2, j3, j0, hq, hp]; first | done | exact rfl); simp only [Act.put, List.setIfInBounds_toArray, List.set_cons_zero, List.set_cons_succ, List.set_nil]))
              refine WQ.fin fun W5 hW5 => ?_
              go_wp2_with fail
              exact bodyPost_ret (v := .tuple #[.int .i64 (i : Int), .bool false, .int .i64 0]) (by simp only [results, Tryz.results13]; go_simp) rfl ⟨by rw [HF.out, decide_eq_false HNE.out], bStep HBJ.out hW5⟩
           ·obtain rfl : j = i := by omega
            have hpr : prHas (prOf (es.take j)) (n : Int) (m : Int) = false := by have h9 := HPR.out; unfold prOf at h9 ⊢; rw [← List.map_take] at h9; exact h9
            have HPRF := Lib.hid hpr
            clear hpr hcj hj
            go_upto_region 19 with fail
            have u0 : ∀ s : WStep wr, s.1.cell? ⟨P, 0, none⟩ = some (.int .i64 k) := fun s => cell_step (blk_cell HEX.out rfl) (bStep HJ.out s.2)
            have u1 : ∀ s : WStep wr, s.1.cell? ⟨P, 1, none⟩ = some (.int .i64 t) := fun s => cell_step (blk_cell HEX.out rfl) (bStep HJ.out s.2)
            have u2 : ∀ s : WStep wr, s.1.cell? ⟨P, 2, none⟩ = some (.int .i64 a1) := fun s => cell_step (blk_cell HEX.out rfl) (bStep HJ.out s.2)
            have u3 : ∀ s : WStep wr, s.1.cell? ⟨P, 3, none⟩ = some (.int .i64 b1) := fun s => cell_step (blk_cell HEX.out rfl) (bStep HJ.out s.2)
            have u4 : ∀ s : WStep wr, s.1.cell? ⟨P, 4, none⟩ = some (.string nm) := fun s => cell_step (blk_cell HEX.out rfl) (bStep HJ.out s.2)
            have u5 : ∀ s : WStep wr, s.1.cell? ⟨P, 5, none⟩ = some (.string ot) := fun s => cell_step (blk_cell HEX.out rfl) (bStep HJ.out s.2)
            have u6 : ∀ s : WStep wr, s.1.cell? ⟨P, 6, none⟩ = some (.int .i64 (n : Int)) := fun s => cell_step (blk_cell HEX.out rfl) (bStep HJ.out s.2)
            have u7 : ∀ s : WStep wr, s.1.cell? ⟨P, 7, none⟩ = some (.int .i64 (m : Int)) := fun s => cell_step (blk_cell HEX.out rfl) (bStep HJ.out s.2)
            have HUE : Hid (∀ s : WStep wr, ∀ (q : Nat) (u : Value), (entC ((k, t, a1, b1, nm, ot), (n : Int), (m : Int), head, tag))[q]? = some u → s.1.cell? ⟨P, 0 + q, none⟩ = some u) := fun s q u hq => cell_step (blk_cell HEX.out (by rw [Nat.zero_add]; simpa using hq)) (bStep HJ.out s.2)
            obtain ⟨pd, hpd⟩ : ∃ pd, bk.2[m]? = some pd := ⟨bk.2[m]'H4.out, List.getElem?_eq_getElem H4.out⟩
            have HBD := Lib.hid (HS.out.2.2.2 bk (List.mem_of_getElem? HBK.out))
            have HPD := Lib.hid hpd
            clear hpd
            have CN : Hid (∀ s : WStep wr, Calls Tryz.prog 52 #[.int .u64 (pt : Int), .slice (some ⟨bb, ob, none⟩) bks.length cb, .string name, .slice (some ⟨b, off, none⟩) j c, .agg #[.int .i64 k, .int .i64 t, .int .i64 a1, .int .i64 b1, .string nm, .string ot], .int .i64 (n : Int), .int .i64 (m : Int)] s.1 fun e w' => e = .returned (entX (nextE pt bks (headOf pt name (es.take j)) (k, t, a1, b1, nm, ot) n m)) ∧ ∃ t : WStep wr, w' = t.1) := fun s => by
             have hln : (es.take j).length = j := by rw [List.length_take]; omega
             have h9 := step_call s (RRight_any pt bb ob c cb n m pd name bk (k, t, a1, b1, nm, ot) ((HE.out.take j).step (bStep HBJ.out s.2)) (HB.out.step (bStep HBJ.out s.2)) HOK.out HSZ.out HBK.out HPD.out HS.out.2.1.2 HBD.out.1 (HBD.out.2.2 pd (List.mem_of_getElem? HPD.out)) ⟨by rw [hln]; have := HN.out.2.1; omega, by have := HS.out.2.2.1; omega, by have := HBD.out.2.1; omega⟩ HN.out.1 (fun y hy => HN.out.2.2.2 y (List.mem_of_mem_take hy)))
             rw [hln] at h9
             exact h9
            have HIN : Hid (0 ≤ (n : Int) ∧ (n : Int) < bks.length ∧ 0 ≤ (m : Int) ∧ (m : Int) < (bks.getD (n : Int).toNat (0, [])).2.length) := ⟨by omega, h2i, by omega, by rw [Int.toNat_natCast, HGD.out]; have := H4.out; omega⟩
            have HRT := Lib.hid (rt_5 (pt := pt) (bks := bks) (name := name) (pre := es.take j) (x := ((k, t, a1, b1, nm, ot), (n : Int), (m : Int), head, tag)) HOK.out HCAN.out HIN.out HPRF.out)
            obtain ⟨NE, hNE⟩ : ∃ NE, nextE pt bks (headOf pt name (es.take j)) (k, t, a1, b1, nm, ot) n m = NE := ⟨_, rfl⟩
            rw [hNE] at CN
            have HNEq := Lib.hid hNE
            clear hNE
            cases hb : entB NE ((k, t, a1, b1, nm, ot), (n : Int), (m : Int), head, tag)
            ·have HBE := Lib.hid hb
             clear hb
             have HF := Lib.hid (HST0.out (by rw [HRT.out]; dsimp only; rw [Int.toNat_natCast, Int.toNat_natCast, HNEq.out]; exact HBE.out))
             refine wp_region_lock (by kernel_rfl) (by kernel_rfl) ?_
             repeat (first | (refine WQ.skip rfl rfl rfl rfl ?_; simp only [Act.put, List.setIfInBounds_toArray, List.set_cons_zero, List.set_cons_succ, List.set_nil]) | (apply WQ.val; (exact rfl); (intro w9 hw9; obtain ⟨s9, rfl⟩ := hw9; with_reducible refine entload_at ((k, t, a1, b1, nm, ot), (n : Int), (m : Int), head, tag) (.tmp 13) P 0 rfl rfl (HUE.out s9)); simp only [Act.put, List.setIfInBounds_toArray, List.set_cons_zero, List.set_cons_succ, List.set_nil]) | (apply WQ.val; (exact rfl); (intro w9 hw9; refine entneq_at NE ((k, t, a1, b1, nm, ot), (n : Int), (m : Int), head, tag) (.tmp 123) (.tmp 124) _ rfl rfl rfl (r := true) (by rw [HBE.out]; rfl)); simp only [Act.put, List.setIfInBounds_toArray, List.set_cons_zero, List.set_cons_succ, List.set_nil]) | ((first | (apply WQ.val; (exact rfl)) | (apply WQ.valg; (exact rfl); (exact rfl); (exact rfl))); (intro w9 hw9; obtain ⟨s9, rfl⟩ := hw9; simp [go_sem, u0, u1, u2, u3, u4, u5, u6, u7, c0, c1, c2, c3, hcp]; first | done | exact rfl | (with_reducible exact CN.out s9)); simp only [Act.put, List.setIfInBounds_toArray, List.set_cons_zero, List.set_cons_succ, List.set_nil]))
             refine WQ.fin fun W5 hW5 => ?_
             go_wp2_with fail
             exact bodyPost_ret (v := .tuple #[.int .i64 (j : Int), .bool false, .int .i64 0]) (by simp only [results, Tryz.results13]; go_simp) rfl ⟨by rw [HF.out, decide_eq_false HNE.out], bStep HBJ.out hW5⟩
            ·have HBE := Lib.hid hb
             clear hb
             have HR2 := Lib.hid (HR.out.snoc HK.out (by rw [HRT.out]; dsimp only; rw [Int.toNat_natCast, Int.toNat_natCast, HNEq.out]; exact HBE.out))
             refine wp_region_lock (by kernel_rfl) (by kernel_rfl) ?_
             repeat (first | (refine WQ.skip rfl rfl rfl rfl ?_; simp only [Act.put, List.setIfInBounds_toArray, List.set_cons_zero, List.set_cons_succ, List.set_nil]) | (apply WQ.val; (exact rfl); (intro w9 hw9; obtain ⟨s9, rfl⟩ := hw9; with_reducible refine entload_at ((k, t, a1, b1, nm, ot), (n : Int), (m : Int), head, tag) (.tmp 13) P 0 rfl rfl (HUE.out s9)); simp only [Act.put, List.setIfInBounds_toArray, List.set_cons_zero, List.set_cons_succ, List.set_nil]) | (apply WQ.val; (exact rfl); (intro w9 hw9; refine entneq_at NE ((k, t, a1, b1, nm, ot), (n : Int), (m : Int), head, tag) (.tmp 123) (.tmp 124) _ rfl rfl rfl (r := false) (by rw [HBE.out]; rfl)); simp only [Act.put, List.setIfInBounds_toArray, List.set_cons_zero, List.set_cons_succ, List.set_nil]) | ((first | (apply WQ.val; (exact rfl)) | (apply WQ.valg; (exact rfl); (exact rfl); (exact rfl))); (intro w9 hw9; obtain ⟨s9, rfl⟩ := hw9; simp [go_sem, u0, u1, u2, u3, u4, u5, u6, u7, c0, c1, c2, c3, hcp]; first | done | exact rfl | (with_reducible exact CN.out s9)); simp only [Act.put, List.setIfInBounds_toArray, List.set_cons_zero, List.set_cons_succ, List.set_nil]))
             refine WQ.fin fun W5 hW5 => ?_
             go_wp2_with fail
             exact ⟨⟨j + 1, by omega, by push_cast; rfl, HR2, bStep HBJ.out hW5⟩, by simp [intOf]; omega⟩
  ·obtain rfl : i = es.length := by omega
   have HF := Lib.hid HR.out.all
   clear hc
   go_wp2_with fail
   exact bodyPost_ret (v := .tuple #[.int .i64 (es.length : Int), .bool true, .int .i64 0]) (by simp only [results, Tryz.results13]; go_simp) rfl ⟨by rw [HF.out, decide_eq_true rfl], HV.out⟩
theorem RVerify_any {a ab : Option Addr} {es : List Ent} {bks : List Bk} {w : World} (pt c cb : Nat) (name : ByteArray) (hE : EntAt a es w) (hB : BksAt ab bks w) (hG : Glob0 w)
  (hes : es.length ≤ 1000000 ∧ ∀ y ∈ es, y.1.2.2.2.2.1.size ≤ 100 ∧ y.1.2.2.2.2.2.size ≤ 100) (hbl : bks.length ≤ 1000000 ∧ ∀ bk ∈ bks, bk.2.length ≤ 1000000) (hnm : name.size ≤ 1000) (hcap : es.length ≤ c) (hhd : ∀ y ∈ es, y.2.2.2.1 < 18446744073709551616) :
  Calls Tryz.prog 13 #[.int .u64 (pt : Int), .slice ab bks.length cb, .string name, .slice a es.length c] w fun e w' => e = .returned (verV (verR pt bks name es)) ∧ Below w.heap.size w w' := by
 by_cases h1 : secR pt bks = 0
 ·cases h2 : nameB name
  ·exact RVerify_2 pt c cb name hE hB hG hes hbl hnm hcap hhd h1 h2
  ·by_cases h3 : 500 < es.length
   ·exact RVerify_3 pt c cb name hE hB hG hes hbl hnm hcap hhd h1 h2 h3
   ·exact RVerify_4 pt c cb name hE hB hG hes hbl hnm hcap hhd h1 h2 h3
 ·exact RVerify_1 pt c cb name hE hB hG hes hbl hnm hcap hhd h1
end Go.Proofs.YtmpilgkfbibhlaaGreatDoor
