/-
  Plants: the reference's Show.
-/
import Derived.Test.YtladkknbkgomfaaG9Plant
import Derived.Test.YtladkknbkgomfaaG15Plant
set_option linter.unusedSimpArgs false
set_option linter.unusedVariables false
namespace Go.Proofs.Ytladkknbkgomfaa
open Go.RowKit Mr
theorem rF_hasR {l : List Brk} {t : Tru} {sh : T3} {bk : Nat → Bool} {i k : Nat} (hi : i < 3) (hm : (hasB 2 (i : Int) l).1 = false) : w2F l t sh i (qF l t i (updF (rF l t sh bk i) (i * 6) (.bool true)) 5) k = rF l t sh bk (i + 1) k := by
  rw [← rF_has (f := updF (w2F l t sh i (rF l t sh bk i)) (i * 6) (.bool true)) hi hm (fun k hk => updF_ne (by omega)) updF_at]
  by_cases c : k < 18
  · unfold w2F w1F
    rw [updF_ne (by omega), updF_ne (by omega), updF_ne (by omega)]
    unfold qF
    by_cases d : i * 6 + 1 ≤ k ∧ k < i * 6 + 1 + 5
    · rw [if_pos d, if_pos d]
    · rw [if_neg d, if_neg d]
      by_cases e : k = i * 6
      · subst e; rw [updF_at, updF_at]
      · rw [updF_ne e, updF_ne e, updF_ne (by omega), updF_ne (by omega), updF_ne (by omega)]
  · have e0 : qF l t i (updF (w2F l t sh i (rF l t sh bk i)) (i * 6) (.bool true)) 5 k = w2F l t sh i (rF l t sh bk i) k := by
      unfold qF; rw [if_neg (by omega), updF_ne (by omega)]
    rw [e0]
    unfold w2F w1F
    by_cases c1 : k = 24 + i
    · subst c1; rw [updF_at, updF_at]
    rw [updF_ne c1, updF_ne c1]
    by_cases c2 : k = 21 + i
    · subst c2; rw [updF_at, updF_at]
    rw [updF_ne c2, updF_ne c2]
    by_cases c3 : k = 18 + i
    · subst c3; rw [updF_at, updF_at]
    rw [updF_ne c3, updF_ne c3]
    unfold qF
    rw [if_neg (by omega), updF_ne (by omega)]
theorem rF_muteR {l : List Brk} {t : Tru} {sh : T3} {bk : Nat → Bool} {i k : Nat} (hi : i < 3) : updF (rF l t sh bk i) (i * 6) (.bool false) k = rF l t sh bk i k := by
  by_cases c : k = i * 6
  · subst c
    rw [updF_at]
    unfold rF
    rw [if_pos (by omega), if_neg (by omega)]
    unfold zS
    rw [if_pos (by omega), if_pos (by omega)]
  · rw [updF_ne c]
theorem w2_noR {l : List Brk} {t : Tru} {sh : T3} {i : Nat} {f : Nat → Value} (h : (hasB 6 (i : Int) l).1 = false) : updF (w1F l t i f) (24 + i) (.bool (at3 sh i)) = w2F l t sh i f := by
  unfold w2F; rw [wB_no h]
theorem w2_yesR {l : List Brk} {t : Tru} {sh : T3} {i k : Nat} {f : Nat → Value} (h : (hasB 6 (i : Int) l).1 = true) : updF (updF (w1F l t i f) (24 + i) (.bool (at3 sh i))) (24 + i) (.bool (hasB 6 (i : Int) l).2) k = w2F l t sh i f k := by
  unfold w2F; rw [wB_yes h]
  by_cases c : k = 24 + i
  · subst c; rw [updF_at, updF_at]
  · rw [updF_ne c, updF_ne c, updF_ne c]
theorem valC_lie {l : List Brk} {t : Tru} {i q : Nat} (hl : (hasB 1 (i : Int) l).1 = true) : valC l t i q = t.n (20 + q) := by
  unfold valC; rw [hl]; rfl
theorem upd_twice {f : Nat → Value} {k j : Nat} {u v : Value} : updF (updF f k u) k v j = updF f k v j := by
  by_cases c : j = k
  · subst c; rw [updF_at, updF_at]
  · rw [updF_ne c, updF_ne c, updF_ne c]
set_option maxHeartbeats 4000000 in
set_option maxRecDepth 20000 in
theorem RShow_no {M Q : Nat} {l : List Brk} {A : List ActM} {lag : Nat} {sh : T3} {fi : Bool} {aL : Option Addr} {cL : Nat} {vA : Value} {w : World} (h : RpAt M Q l A lag sh fi aL cL vA w) (hn : l.length ≤ 16) (t : Tru) (hok : okTru t = false) : Calls Try.prog 13 #[.pointer (some ⟨Q, 0, none⟩), .agg (truC t).toArray] w fun e w' => e = .returned (.tuple #[.agg (fA 31 zS), .int .i64 2]) ∧ Below w.heap.size w w' := by
  obtain ⟨wB, hwB⟩ : ∃ wB, wB = (w.alloc (.cells (truC t).toArray 38)).alloc (.cells (fA 31 zS) 52) := ⟨_, rfl⟩
  have HPB : Hid (RpAt M Q l A lag sh fi aL cL vA wB) := by rw [hwB]; exact (h.step bAl).step bAl
  have HTB : Hid (wB.heap[w.heap.size]? = some (.cells (truC t).toArray 38 (0, 0))) := by rw [hwB]; exact blk_step (blk_new w _) bAl
  have HRB : Hid (wB.heap[w.heap.size + 1]? = some (fO 31 zS 52)) := by
    have h9 := blk_new (w.alloc (.cells (truC t).toArray 38)) (.cells (fA 31 zS) 52)
    rw [show (w.alloc (.cells (truC t).toArray 38)).heap.size = w.heap.size + 1 by simp, ← hwB] at h9
    exact h9
  have HBB : Hid (Below w.heap.size w wB) := by rw [hwB]; exact bAlloc bAl _
  have HZB : Hid (wB.heap.size = w.heap.size + 2) := by rw [hwB]; simp [Hid]
  have HTR : Hid (wB.rangeAt w.heap.size 0 (truC t)) := fun j v hj => blk_cell HTB.out (by rw [Nat.zero_add, List.getElem?_toArray]; exact hj)
  have CP := Lib.hid (fun W => RPossible_any t W)
  rw [hok] at CP
  have HE := Lib.hid hwB
  clear h hwB
  go_enter Try.func13, Try.ntmps13
  go_upto_region 1 with fail
  rw [zS_eq, ← HE.out]
  go_upto_region 2 with (first | (refine wpList_load_mid rfl 38 (.tmp 3) rfl w.heap.size 0 rfl (truC t) _ HTR.out Try.underlying38 rfl trSize ?_) | (go_at_call 27; refine (CP.out _).mono ?_; rintro e w3 ⟨rfl, hb3⟩; have HB3 := Lib.hid hb3; clear hb3))
  have HR3 := Lib.hid (blk_step HRB.out HB3.out)
  have HBW := Lib.hid (bStep HBB.out HB3.out)
  have HB4 : Hid (Below w.heap.size w (w3.setCells (w.heap.size + 1) 0 (#[.bool false, .int .i64 0, .int .i64 0, .int .i64 0, .int .i64 0, .int .i64 0, .bool false, .int .i64 0, .int .i64 0, .int .i64 0, .int .i64 0, .int .i64 0, .bool false, .int .i64 0, .int .i64 0, .int .i64 0, .int .i64 0, .int .i64 0, .bool false, .bool false, .bool false, .bool false, .bool false, .bool false, .bool false, .bool false, .bool false, .int .i64 0, .int .i64 0, .bool false, .bool false] : Array Value).toList)) := bSetCells _ _ HBW.out (by omega)
  have HR4 : Hid ((w3.setCells (w.heap.size + 1) 0 (#[.bool false, .int .i64 0, .int .i64 0, .int .i64 0, .int .i64 0, .int .i64 0, .bool false, .int .i64 0, .int .i64 0, .int .i64 0, .int .i64 0, .int .i64 0, .bool false, .int .i64 0, .int .i64 0, .int .i64 0, .int .i64 0, .int .i64 0, .bool false, .bool false, .bool false, .bool false, .bool false, .bool false, .bool false, .bool false, .bool false, .int .i64 0, .int .i64 0, .bool false, .bool false] : Array Value).toList).heap[w.heap.size + 1]? = some (fO 31 zS 52)) := (fb_sets_all HR3.out rfl).trans (by refine congrArg some (fO_ext fun k hk => ?_); rw [zS_eq, fA_list, List.getD_eq_getElem?_getD, List.getElem?_map, List.getElem?_range hk]; rfl)
  go_wp2_with (refine wpList_store_mid rfl 52 (.tmp 4) (.tmp 19) rfl (w.heap.size + 1) 0 #[.bool false, .int .i64 0, .int .i64 0, .int .i64 0, .int .i64 0, .int .i64 0, .bool false, .int .i64 0, .int .i64 0, .int .i64 0, .int .i64 0, .int .i64 0, .bool false, .int .i64 0, .int .i64 0, .int .i64 0, .int .i64 0, .int .i64 0, .bool false, .bool false, .bool false, .bool false, .bool false, .bool false, .bool false, .bool false, .bool false, .int .i64 0, .int .i64 0, .bool false, .bool false] rfl rfl (fb_there HR3.out) sgSize (by rw [zS_eq]; exact fA_one fun k _ => zS_one) ?_)
  exact bodyPost_ret (v := .tuple #[.agg (fA 31 zS), .int .i64 2]) (res_cell Try.results13 rfl (sgLoad HR4.out) rfl) rfl ⟨rfl, HB4.out⟩
theorem g0R_eq {l : List Brk} {t : Tru} {sh : T3} : (#[.bool false, .int .i64 0, .int .i64 0, .int .i64 0, .int .i64 0, .int .i64 0, .bool false, .int .i64 0, .int .i64 0, .int .i64 0, .int .i64 0, .int .i64 0, .bool false, .int .i64 0, .int .i64 0, .int .i64 0, .int .i64 0, .int .i64 0, .bool false, .bool false, .bool false, .bool false, .bool false, .bool false, .bool false, .bool false, .bool false, .int .i64 t.link, .int .i64 t.pack, .bool t.want, .bool t.rs] : Array Value) = fA 31 (rF l t sh (fun _ => false) 0) := rfl
set_option maxHeartbeats 4000000 in
set_option maxRecDepth 20000 in
theorem RShow_yes {M Q : Nat} {l : List Brk} {A : List ActM} {lag : Nat} {sh : T3} {fi : Bool} {aL : Option Addr} {cL : Nat} {vA : Value} {w : World} (h : RpAt M Q l A lag sh fi aL cL vA w) (hn : l.length ≤ 16) (t : Tru) (hok : okTru t = true) : Calls Try.prog 13 #[.pointer (some ⟨Q, 0, none⟩), .agg (truC t).toArray] w fun e w' => e = .returned (.tuple #[.agg (fA 31 (sgF l t sh)), .int .i64 0]) ∧ Below w.heap.size w w' := by
  obtain ⟨wB, hwB⟩ : ∃ wB, wB = (w.alloc (.cells (truC t).toArray 38)).alloc (.cells (fA 31 zS) 52) := ⟨_, rfl⟩
  have HPB : Hid (RpAt M Q l A lag sh fi aL cL vA wB) := by rw [hwB]; exact (h.step bAl).step bAl
  have HTB : Hid (wB.heap[w.heap.size]? = some (.cells (truC t).toArray 38 (0, 0))) := by rw [hwB]; exact blk_step (blk_new w _) bAl
  have HRB : Hid (wB.heap[w.heap.size + 1]? = some (fO 31 zS 52)) := by
    have h9 := blk_new (w.alloc (.cells (truC t).toArray 38)) (.cells (fA 31 zS) 52)
    rw [show (w.alloc (.cells (truC t).toArray 38)).heap.size = w.heap.size + 1 by simp, ← hwB] at h9
    exact h9
  have HBB : Hid (Below w.heap.size w wB) := by rw [hwB]; exact bAlloc bAl _
  have HZB : Hid (wB.heap.size = w.heap.size + 2) := by rw [hwB]; simp [Hid]
  have HTR : Hid (wB.rangeAt w.heap.size 0 (truC t)) := fun j v hj => blk_cell HTB.out (by rw [Nat.zero_add, List.getElem?_toArray]; exact hj)
  have CP := Lib.hid (fun W => RPossible_any t W)
  have HBD := Lib.hid (fun (q i : Nat) (hq : q < 5) (hi : i < 3) => okTru_bd hok hq hi)
  have HNL := Lib.hid hn
  rw [hok] at CP
  have HE := Lib.hid hwB
  clear h hwB hok hn
  go_enter Try.func13, Try.ntmps13
  go_upto_region 1 with fail
  rw [zS_eq, ← HE.out]
  go_upto_region 3 with (first | (refine wpList_load_mid rfl 38 (.tmp 3) rfl w.heap.size 0 rfl (truC t) _ HTR.out Try.underlying38 rfl trSize ?_) | (go_at_call 27; refine (CP.out _).mono ?_; rintro e w3 ⟨rfl, hb3⟩; have HB3 := Lib.hid hb3; clear hb3))
  have HR3 := Lib.hid (blk_step HRB.out HB3.out)
  have HT3 := Lib.hid (blk_step HTB.out HB3.out)
  have HP3 := Lib.hid (HPB.out.step HB3.out)
  have HBW := Lib.hid (bStep HBB.out HB3.out)
  have HZ3 := Lib.hid (Nat.le_trans (Nat.le_of_eq HZB.out.symm) HB3.out.size)
  clear HPB HTB HRB HBB HZB HTR CP HE HB3
  generalize hB : w.heap.size = B at *
  have x27 : w3.cell? ⟨B, 27, none⟩ = some (.int .i64 t.link) := blk_cell HT3.out rfl
  have x28 : w3.cell? ⟨B, 28, none⟩ = some (.int .i64 t.pack) := blk_cell HT3.out rfl
  have x29 : w3.cell? ⟨B, 29, none⟩ = some (.bool t.want) := blk_cell HT3.out rfl
  have x30 : w3.cell? ⟨B, 30, none⟩ = some (.bool t.rs) := blk_cell HT3.out rfl
  have lB := blk_lt HT3.out
  go_upto_region 4 with (refine wpList_store_mid rfl 52 (.tmp 6) (.tmp 28) rfl w3.heap.size 0 (fA 31 (rF l t sh (fun _ => false) 0)) rfl (congrArg Value.agg g0R_eq) (by rw [fA_size]; exact there_new rfl) (by rw [fA_size]; exact sgSize) (fA_one fun k _ => rF_one) ?_)
  clear x27 x28 x29 x30 lB
  change Code.wp _ _ _ _ ((w3.alloc (.cells (fA 31 zS) 52)).setCells w3.heap.size 0 (fA 31 (rF l t sh (fun _ => false) 0)).toList)
  have HSS : Hid (SS w3 w3.heap.size (rF l t sh (fun _ => false) 0) ((w3.alloc (.cells (fA 31 zS) 52)).setCells w3.heap.size 0 (fA 31 (rF l t sh (fun _ => false) 0)).toList)) := ⟨bSetCells _ _ bAl (Nat.le_refl _), Nat.le_refl _, (fb_sets_all (blk_new w3 _) (by rw [fA_list]; simp)).trans (by refine congrArg some (fO_ext fun k hk => ?_); rw [fA_list, List.getD_eq_getElem?_getD, List.getElem?_map, List.getElem?_range hk]; rfl)⟩
  generalize ((w3.alloc (.cells (fA 31 zS) 52)).setCells w3.heap.size 0 (fA 31 (rF l t sh (fun _ => false) 0)).toList) = W0 at *
  generalize hS : w3.heap.size = S at *
  dsimp only [Act.put]
  go_wp2_with fail
  go_loopw [7] (fun ix wr => ∃ i : Nat, i ≤ 3 ∧ ix = .int .i64 i ∧ Hid (SS w3 S (rF l t sh (fun _ => false) i) wr)) (fun ix _ => 3 - (intOf ix).toNat)
  case atStart => exact ⟨0, by omega, rfl, HSS⟩
  case round =>
    obtain ⟨i, hi, rfl, HS⟩ := hrel
    clear HSS
    by_cases hc : i < 3
    · have c1 : (i : Int) < 3 := by omega
      have c0 : (0 : Int) ≤ i := by omega
      have CX := fun (kd : Int) => (fun W9 (hb : Below w3.heap.size w3 W9) => Rhas_any (HP3.out.step hb) HNL.out kd (i : Int))
      have C2 := Lib.hid (CX 2)
      have C1 := Lib.hid (CX 1)
      have C5 := Lib.hid (CX 5)
      have C6 := Lib.hid (CX 6)
      clear CX
      cases hm : (hasB 2 (i : Int) l).1 with
      | true =>
        rw [hm] at C2
        go_upto_region 9 with (first | (go_at_call 25; with_reducible refine (C2.out _ HS.out.bel).mono ?_; rintro e w6 ⟨rfl, hb6⟩) | (go_at_call 25; with_reducible refine (C1.out _ (bStep HS.out.bel hb6)).mono ?_; rintro e w7 ⟨rfl, hb7⟩))
        have HS7 := Lib.hid ((HS.out.step hb6).step hb7)
        have lS := HS7.out.lt
        have z0 := fb_cell HS7.out.fb (show i * 6 < 31 by omega)
        have z1 : _ = false := fb_free (k := i * 6) HS7.out.fb
        go_upto_region 10 with fail
        have HF := Lib.hid ((HS7.out.set (i * 6) (.bool false)).ext fun k _ => rF_muteR hc)
        clear HS hb6 hb7 HS7 lS z0 z1 C1 C2
        generalize w7.setCell ⟨S, i * 6, none⟩ (.bool false) = W1 at *
        go_wp2_with fail
        go_loopw [12] (fun ix wr => ix = .int .i64 0 ∧ Hid (SS w3 S (rF l t sh (fun _ => false) i) wr)) (fun ix _ => 0)
        case atStart => exact ⟨rfl, HF.out⟩
        case round =>
          obtain ⟨rfl, HQ⟩ := hrel
          clear HF
          go_upto_region 16 with fail
          have ht := blk_step HT3.out HQ.out.bel
          have x25 : wr.cell? ⟨B, 25, none⟩ = some (.bool t.cr) := blk_cell ht rfl
          have x26 : wr.cell? ⟨B, 26, none⟩ = some (.bool t.wa) := blk_cell ht rfl
          have lB := blk_lt ht
          have lS := HQ.out.lt
          have z0 := fb_cell HQ.out.fb (show 18 + i < 31 by omega)
          have z1 : wr.frozen? ⟨S, 18 + i, none⟩ = false := fb_free HQ.out.fb
          have z2 := fb_cell HQ.out.fb (show 21 + i < 31 by omega)
          have z3 : wr.frozen? ⟨S, 21 + i, none⟩ = false := fb_free HQ.out.fb
          go_upto_region 18 with fail
          have HA := Lib.hid ((HQ.out.set (18 + i) (.bool t.cr)).set (21 + i) (.bool t.wa))
          clear ht x25 x26 lB lS z0 z1 z2 z3 HQ
          generalize (wr.setCell ⟨S, 18 + i, none⟩ (.bool t.cr)).setCell ⟨S, 21 + i, none⟩ (.bool t.wa) = WA at *
          cases hw5 : (hasB 5 (i : Int) l).1 with
          | false =>
            rw [hw5] at C5
            go_upto_region 22 with (go_at_call 25; with_reducible refine (C5.out _ HA.out.bel).mono ?_; rintro e w8 ⟨rfl, hb8⟩)
            have HC := Lib.hid (HA.out.step hb8)
            rw [w1_no hw5] at HC
            clear HA hb8 C5 hw5
            have HPC := HP3.out.step HC.out.bel
            have lQ := HPC.lt
            have xq : w8.cell? ⟨Q, 3 + i, none⟩ = some (.bool (at3 sh i)) := blk_cell HPC.blk (rp_at hc)
            have lS := HC.out.lt
            have z0 := fb_cell HC.out.fb (show 24 + i < 31 by omega)
            have z1 : w8.frozen? ⟨S, 24 + i, none⟩ = false := fb_free HC.out.fb
            go_upto_region 23 with fail
            have HD := Lib.hid (HC.out.set (24 + i) (.bool (at3 sh i)))
            clear HPC lQ xq lS z0 z1 HC
            generalize w8.setCell ⟨S, 24 + i, none⟩ (.bool (at3 sh i)) = WD at *
            cases hw6 : (hasB 6 (i : Int) l).1 with
            | false =>
              rw [hw6] at C6
              go_wp2_with (go_at_call 25; with_reducible refine (C6.out _ HD.out.bel).mono ?_; rintro e w9 ⟨rfl, hb9⟩)
              have HE := HD.out.step hb9
              rw [w2_noR hw6] at HE
              exact ⟨⟨i + 1, by omega, by push_cast; rfl, HE.ext fun k _ => rF_mute hc hm⟩, by simp [intOf]; omega⟩
            | true =>
              rw [hw6] at C6
              go_upto_region 25 with (go_at_call 25; with_reducible refine (C6.out _ HD.out.bel).mono ?_; rintro e w9 ⟨rfl, hb9⟩)
              have HE := Lib.hid (HD.out.step hb9)
              have lS := HE.out.lt
              have z0 := fb_cell HE.out.fb (show 24 + i < 31 by omega)
              have z1 : w9.frozen? ⟨S, 24 + i, none⟩ = false := fb_free HE.out.fb
              go_wp2_with fail
              have HG := HE.out.set (24 + i) (.bool (hasB 6 (i : Int) l).2)
              exact ⟨⟨i + 1, by omega, by push_cast; rfl, HG.ext fun k _ => (w2_yesR hw6).trans (rF_mute hc hm)⟩, by simp [intOf]; omega⟩
          | true =>
            rw [hw5] at C5
            go_upto_region 20 with (go_at_call 25; with_reducible refine (C5.out _ HA.out.bel).mono ?_; rintro e w8 ⟨rfl, hb8⟩)
            have HA8 := Lib.hid (HA.out.step hb8)
            have lS := HA8.out.lt
            have z0 := fb_cell HA8.out.fb (show 18 + i < 31 by omega)
            have z1 : w8.frozen? ⟨S, 18 + i, none⟩ = false := fb_free HA8.out.fb
            have z2 := fb_cell HA8.out.fb (show 21 + i < 31 by omega)
            have z3 : w8.frozen? ⟨S, 21 + i, none⟩ = false := fb_free HA8.out.fb
            go_upto_region 22 with fail
            have HC := Lib.hid (SS.ext (g := w1F l t i (rF l t sh (fun _ => false) i)) ((HA8.out.set (18 + i) (.bool (hasB 5 (i : Int) l).2)).set (21 + i) (.bool (hasB 5 (i : Int) l).2)) fun k _ => w1_yes hw5 hc)
            clear HA hb8 HA8 lS z0 z1 z2 z3 C5 hw5
            generalize (w8.setCell ⟨S, 18 + i, none⟩ (.bool (hasB 5 (i : Int) l).2)).setCell ⟨S, 21 + i, none⟩ (.bool (hasB 5 (i : Int) l).2) = WC at *
            have HPC := HP3.out.step HC.out.bel
            have lQ := HPC.lt
            have xq : WC.cell? ⟨Q, 3 + i, none⟩ = some (.bool (at3 sh i)) := blk_cell HPC.blk (rp_at hc)
            have lS := HC.out.lt
            have z0 := fb_cell HC.out.fb (show 24 + i < 31 by omega)
            have z1 : WC.frozen? ⟨S, 24 + i, none⟩ = false := fb_free HC.out.fb
            go_upto_region 23 with fail
            have HD := Lib.hid (HC.out.set (24 + i) (.bool (at3 sh i)))
            clear HPC lQ xq lS z0 z1 HC
            generalize WC.setCell ⟨S, 24 + i, none⟩ (.bool (at3 sh i)) = WD at *
            cases hw6 : (hasB 6 (i : Int) l).1 with
            | false =>
              rw [hw6] at C6
              go_wp2_with (go_at_call 25; with_reducible refine (C6.out _ HD.out.bel).mono ?_; rintro e w9 ⟨rfl, hb9⟩)
              have HE := HD.out.step hb9
              rw [w2_noR hw6] at HE
              exact ⟨⟨i + 1, by omega, by push_cast; rfl, HE.ext fun k _ => rF_mute hc hm⟩, by simp [intOf]; omega⟩
            | true =>
              rw [hw6] at C6
              go_upto_region 25 with (go_at_call 25; with_reducible refine (C6.out _ HD.out.bel).mono ?_; rintro e w9 ⟨rfl, hb9⟩)
              have HE := Lib.hid (HD.out.step hb9)
              have lS := HE.out.lt
              have z0 := fb_cell HE.out.fb (show 24 + i < 31 by omega)
              have z1 : w9.frozen? ⟨S, 24 + i, none⟩ = false := fb_free HE.out.fb
              go_wp2_with fail
              have HG := HE.out.set (24 + i) (.bool (hasB 6 (i : Int) l).2)
              exact ⟨⟨i + 1, by omega, by push_cast; rfl, HG.ext fun k _ => (w2_yesR hw6).trans (rF_mute hc hm)⟩, by simp [intOf]; omega⟩
      | false =>
        rw [hm] at C2
        have HM := Lib.hid hm
        clear hm
        obtain ⟨lb, hl⟩ : ∃ lb, (hasB 1 (i : Int) l).1 = lb := ⟨_, rfl⟩
        rw [hl] at C1
        have HL := Lib.hid hl
        clear hl
        go_upto_region 9 with (first | (go_at_call 25; with_reducible refine (C2.out _ HS.out.bel).mono ?_; rintro e w6 ⟨rfl, hb6⟩) | (go_at_call 25; with_reducible refine (C1.out _ (bStep HS.out.bel hb6)).mono ?_; rintro e w7 ⟨rfl, hb7⟩))
        have HS7 := Lib.hid ((HS.out.step hb6).step hb7)
        have lS := HS7.out.lt
        have z0 := fb_cell HS7.out.fb (show i * 6 < 31 by omega)
        have z1 : _ = false := fb_free (k := i * 6) HS7.out.fb
        go_upto_region 10 with fail
        have HF := Lib.hid (HS7.out.set (i * 6) (.bool true))
        clear HS hb6 hb7 HS7 lS z0 z1 C1 C2
        generalize w7.setCell ⟨S, i * 6, none⟩ (.bool true) = W1 at *
        go_wp2_with fail
        go_loopw [12] (fun ix wr => ∃ q : Nat, q ≤ 5 ∧ ix = .int .i64 q ∧ Hid (SS w3 S (qF l t i (updF (rF l t sh (fun _ => false) i) (i * 6) (.bool true)) q) wr)) (fun ix _ => 5 - (intOf ix).toNat)
        case atStart => exact ⟨0, by omega, rfl, HF.out.ext fun k _ => qF_0⟩
        case round =>
          obtain ⟨q, hq, rfl, HQ⟩ := hrel
          clear HF
          by_cases hd : q < 5
          · have d1 : (q : Int) < 5 := by omega
            have d0 : (0 : Int) ≤ q := by omega
            have ht := blk_step HT3.out HQ.out.bel
            have xq : wr.drew.cell? ⟨B, q, none⟩ = some (.int .i64 (t.n q)) := blk_cell ht ((List.getElem?_toArray ..).trans (truC_n t (by omega)))
            have xe : wr.drew.cell? ⟨B, 5 + i * 5 + q, none⟩ = some (.int .i64 (t.n (5 + i * 5 + q))) := blk_cell ht ((List.getElem?_toArray ..).trans (truC_n t (by omega)))
            have lB : B < wr.drew.heap.size := blk_lt ht
            have lS : S < wr.drew.heap.size := HQ.out.lt
            have hb := HBD.out q i hd hc
            obtain ⟨su, hSU⟩ : ∃ su, t.n q + t.n (5 + i * 5 + q) = su := ⟨_, rfl⟩
            have wv : IntKind.i64.wrap (t.n q + t.n (5 + i * 5 + q)) = su := (Go.IntWalk.i64_in _ ⟨by omega, by omega⟩).trans hSU
            have HSU := Lib.hid hSU
            clear hSU hb
            have z0 : wr.drew.cell? ⟨S, i * 6 + 1 + q, none⟩ = some _ := fb_cell HQ.out.fb (show i * 6 + 1 + q < 31 by omega)
            have z1 : wr.drew.frozen? ⟨S, i * 6 + 1 + q, none⟩ = false := fb_free HQ.out.fb
            go_upto_region 13 with fail
            refine wp_tail_lock 17 (by kernel_rfl) (by kernel_rfl) ?_
            simp only [List.take_succ_cons, List.take_zero, List.drop_succ_cons, List.drop_zero]
            iterate 17 (first | ((first | (refine WT.skip rfl rfl rfl ?_) | (refine WT.skipU rfl rfl rfl ?_)); simp only [Act.put, List.setIfInBounds_toArray, List.set_cons_zero, List.set_cons_succ, List.set_nil]) | ((first | (apply WT.val; (exact rfl)) | (apply WT.valg; (exact rfl); (exact rfl); (exact rfl))); (simp [go_sem, xq, xe, lB, lS, wv, c0, c1, d0, d1]; first | done | exact rfl); simp only [Act.put, List.setIfInBounds_toArray, List.set_cons_zero, List.set_cons_succ, List.set_nil]))
            refine WT.fin ?_
            cases lb with
            | false =>
              go_wp2_with fail
              have HQ3 := Lib.hid ((HQ.out.set (i * 6 + 1 + q) (.int .i64 su)).step (Below.refl _ _).drew)
              exact ⟨⟨q + 1, by omega, by push_cast; rfl, HQ3.out.ext fun k _ => by rw [← HSU.out, ← valC_true (l := l) HL.out]; exact qF_next⟩, by simp [intOf]; omega⟩
            | true =>
              go_upto_region 15 with fail
              have HQ3 := Lib.hid ((HQ.out.set (i * 6 + 1 + q) (.int .i64 su)).step (Below.refl _ _).drew)
              clear z0 z1 xq xe lB lS ht wv
              generalize (wr.setCell ⟨S, i * 6 + 1 + q, none⟩ (.int .i64 su)).drew = W5 at *
              have ht := blk_step HT3.out HQ3.out.bel
              have xl : W5.drew.cell? ⟨B, 20 + q, none⟩ = some (.int .i64 (t.n (20 + q))) := blk_cell ht ((List.getElem?_toArray ..).trans (truC_n t (by omega)))
              have lB : B < W5.drew.heap.size := blk_lt ht
              have lS : S < W5.drew.heap.size := HQ3.out.lt
              have z0 : W5.drew.cell? ⟨S, i * 6 + 1 + q, none⟩ = some _ := fb_cell HQ3.out.fb (show i * 6 + 1 + q < 31 by omega)
              have z1 : W5.drew.frozen? ⟨S, i * 6 + 1 + q, none⟩ = false := fb_free HQ3.out.fb
              refine wp_tail_lock 10 (by kernel_rfl) (by kernel_rfl) ?_
              simp only [List.take_succ_cons, List.take_zero, List.drop_succ_cons, List.drop_zero]
              iterate 10 (first | ((first | (refine WT.skip rfl rfl rfl ?_) | (refine WT.skipU rfl rfl rfl ?_)); simp only [Act.put, List.setIfInBounds_toArray, List.set_cons_zero, List.set_cons_succ, List.set_nil]) | ((first | (apply WT.val; (exact rfl)) | (apply WT.valg; (exact rfl); (exact rfl); (exact rfl))); (simp [go_sem, xl, lB, lS, c0, c1, d0, d1]; first | done | exact rfl); simp only [Act.put, List.setIfInBounds_toArray, List.set_cons_zero, List.set_cons_succ, List.set_nil]))
              refine WT.fin ?_
              go_wp2_with fail
              have HQ4 := Lib.hid ((HQ3.out.set (i * 6 + 1 + q) (.int .i64 (t.n (20 + q)))).step (Below.refl _ _).drew)
              exact ⟨⟨q + 1, by omega, by push_cast; rfl, HQ4.out.ext fun k _ => by rw [upd_twice, ← valC_lie (l := l) (i := i) HL.out]; exact qF_next⟩, by simp [intOf]; omega⟩
          · obtain rfl : q = 5 := by omega
            clear hd
            go_upto_region 16 with fail
            have ht := blk_step HT3.out HQ.out.bel
            have x25 : wr.cell? ⟨B, 25, none⟩ = some (.bool t.cr) := blk_cell ht rfl
            have x26 : wr.cell? ⟨B, 26, none⟩ = some (.bool t.wa) := blk_cell ht rfl
            have lB := blk_lt ht
            have lS := HQ.out.lt
            have z0 := fb_cell HQ.out.fb (show 18 + i < 31 by omega)
            have z1 : wr.frozen? ⟨S, 18 + i, none⟩ = false := fb_free HQ.out.fb
            have z2 := fb_cell HQ.out.fb (show 21 + i < 31 by omega)
            have z3 : wr.frozen? ⟨S, 21 + i, none⟩ = false := fb_free HQ.out.fb
            go_upto_region 18 with fail
            have HA := Lib.hid ((HQ.out.set (18 + i) (.bool t.cr)).set (21 + i) (.bool t.wa))
            clear ht x25 x26 lB lS z0 z1 z2 z3 HQ
            generalize (wr.setCell ⟨S, 18 + i, none⟩ (.bool t.cr)).setCell ⟨S, 21 + i, none⟩ (.bool t.wa) = WA at *
            cases hw5 : (hasB 5 (i : Int) l).1 with
            | false =>
              rw [hw5] at C5
              go_upto_region 22 with (go_at_call 25; with_reducible refine (C5.out _ HA.out.bel).mono ?_; rintro e w8 ⟨rfl, hb8⟩)
              have HC := Lib.hid (HA.out.step hb8)
              rw [w1_no hw5] at HC
              clear HA hb8 C5 hw5
              have HPC := HP3.out.step HC.out.bel
              have lQ := HPC.lt
              have xq : w8.cell? ⟨Q, 3 + i, none⟩ = some (.bool (at3 sh i)) := blk_cell HPC.blk (rp_at hc)
              have lS := HC.out.lt
              have z0 := fb_cell HC.out.fb (show 24 + i < 31 by omega)
              have z1 : w8.frozen? ⟨S, 24 + i, none⟩ = false := fb_free HC.out.fb
              go_upto_region 23 with fail
              have HD := Lib.hid (HC.out.set (24 + i) (.bool (at3 sh i)))
              clear HPC lQ xq lS z0 z1 HC
              generalize w8.setCell ⟨S, 24 + i, none⟩ (.bool (at3 sh i)) = WD at *
              cases hw6 : (hasB 6 (i : Int) l).1 with
              | false =>
                rw [hw6] at C6
                go_wp2_with (go_at_call 25; with_reducible refine (C6.out _ HD.out.bel).mono ?_; rintro e w9 ⟨rfl, hb9⟩)
                have HE := HD.out.step hb9
                rw [w2_noR hw6] at HE
                exact ⟨⟨i + 1, by omega, by push_cast; rfl, HE.ext fun k _ => rF_hasR hc HM.out⟩, by simp [intOf]; omega⟩
              | true =>
                rw [hw6] at C6
                go_upto_region 25 with (go_at_call 25; with_reducible refine (C6.out _ HD.out.bel).mono ?_; rintro e w9 ⟨rfl, hb9⟩)
                have HE := Lib.hid (HD.out.step hb9)
                have lS := HE.out.lt
                have z0 := fb_cell HE.out.fb (show 24 + i < 31 by omega)
                have z1 : w9.frozen? ⟨S, 24 + i, none⟩ = false := fb_free HE.out.fb
                go_wp2_with fail
                have HG := HE.out.set (24 + i) (.bool (hasB 6 (i : Int) l).2)
                exact ⟨⟨i + 1, by omega, by push_cast; rfl, HG.ext fun k _ => (w2_yesR hw6).trans (rF_hasR hc HM.out)⟩, by simp [intOf]; omega⟩
            | true =>
              rw [hw5] at C5
              go_upto_region 20 with (go_at_call 25; with_reducible refine (C5.out _ HA.out.bel).mono ?_; rintro e w8 ⟨rfl, hb8⟩)
              have HA8 := Lib.hid (HA.out.step hb8)
              have lS := HA8.out.lt
              have z0 := fb_cell HA8.out.fb (show 18 + i < 31 by omega)
              have z1 : w8.frozen? ⟨S, 18 + i, none⟩ = false := fb_free HA8.out.fb
              have z2 := fb_cell HA8.out.fb (show 21 + i < 31 by omega)
              have z3 : w8.frozen? ⟨S, 21 + i, none⟩ = false := fb_free HA8.out.fb
              go_upto_region 22 with fail
              have HC := Lib.hid (SS.ext (g := w1F l t i (qF l t i (updF (rF l t sh (fun _ => false) i) (i * 6) (.bool true)) 5)) ((HA8.out.set (18 + i) (.bool (hasB 5 (i : Int) l).2)).set (21 + i) (.bool (hasB 5 (i : Int) l).2)) fun k _ => w1_yes hw5 hc)
              clear HA hb8 HA8 lS z0 z1 z2 z3 C5 hw5
              generalize (w8.setCell ⟨S, 18 + i, none⟩ (.bool (hasB 5 (i : Int) l).2)).setCell ⟨S, 21 + i, none⟩ (.bool (hasB 5 (i : Int) l).2) = WC at *
              have HPC := HP3.out.step HC.out.bel
              have lQ := HPC.lt
              have xq : WC.cell? ⟨Q, 3 + i, none⟩ = some (.bool (at3 sh i)) := blk_cell HPC.blk (rp_at hc)
              have lS := HC.out.lt
              have z0 := fb_cell HC.out.fb (show 24 + i < 31 by omega)
              have z1 : WC.frozen? ⟨S, 24 + i, none⟩ = false := fb_free HC.out.fb
              go_upto_region 23 with fail
              have HD := Lib.hid (HC.out.set (24 + i) (.bool (at3 sh i)))
              clear HPC lQ xq lS z0 z1 HC
              generalize WC.setCell ⟨S, 24 + i, none⟩ (.bool (at3 sh i)) = WD at *
              cases hw6 : (hasB 6 (i : Int) l).1 with
              | false =>
                rw [hw6] at C6
                go_wp2_with (go_at_call 25; with_reducible refine (C6.out _ HD.out.bel).mono ?_; rintro e w9 ⟨rfl, hb9⟩)
                have HE := HD.out.step hb9
                rw [w2_noR hw6] at HE
                exact ⟨⟨i + 1, by omega, by push_cast; rfl, HE.ext fun k _ => rF_hasR hc HM.out⟩, by simp [intOf]; omega⟩
              | true =>
                rw [hw6] at C6
                go_upto_region 25 with (go_at_call 25; with_reducible refine (C6.out _ HD.out.bel).mono ?_; rintro e w9 ⟨rfl, hb9⟩)
                have HE := Lib.hid (HD.out.step hb9)
                have lS := HE.out.lt
                have z0 := fb_cell HE.out.fb (show 24 + i < 31 by omega)
                have z1 : w9.frozen? ⟨S, 24 + i, none⟩ = false := fb_free HE.out.fb
                go_wp2_with fail
                have HG := HE.out.set (24 + i) (.bool (hasB 6 (i : Int) l).2)
                exact ⟨⟨i + 1, by omega, by push_cast; rfl, HG.ext fun k _ => (w2_yesR hw6).trans (rF_hasR hc HM.out)⟩, by simp [intOf]; omega⟩
    · obtain rfl : i = 3 := by omega
      clear hc
      have HRE := Lib.hid (blk_step HR3.out HS.out.bel)
      have HFB := Lib.hid (fb_ext HS.out.fb fun k _ => rF_all)
      have HSE := Lib.hid HS.out.bel
      clear HS
      have HB4 : Hid (Below w.heap.size w (wr.setCells (B + 1) 0 (fA 31 (sgF l t sh)).toList)) := bSetCells _ _ (by rw [hB]; exact HBW.out.trans (HSE.out.mono (by have := HZ3.out; omega))) (by omega)
      have HR4 : Hid ((wr.setCells (B + 1) 0 (fA 31 (sgF l t sh)).toList).heap[B + 1]? = some (fO 31 (sgF l t sh) 52)) := (fb_sets_all HRE.out (by rw [fA_list]; simp)).trans (by refine congrArg some (fO_ext fun k hk => ?_); rw [fA_list, List.getD_eq_getElem?_getD, List.getElem?_map, List.getElem?_range hk]; rfl)
      go_wp2_with (first | (refine wpList_load_mid rfl 52 (.tmp 6) rfl S 0 rfl (fA 31 (sgF l t sh)).toList _ (fb_range HFB.out) Try.underlying52 rfl (by rw [fA_list]; simpa using sgSize) ?_) | (refine wpList_store_mid rfl 52 (.tmp 4) (.tmp 132) rfl (B + 1) 0 (fA 31 (sgF l t sh)) rfl (by first | rfl | (rw [fA_back2]; rfl)) (by rw [fA_size]; exact fb_there HRE.out) (by rw [fA_size]; exact sgSize) (fA_one fun k _ => rF_one) ?_))
      exact bodyPost_ret (v := .tuple #[.agg (fA 31 (sgF l t sh)), .int .i64 0]) (res_cell Try.results13 rfl (sgLoad HR4.out) rfl) rfl ⟨rfl, HB4.out⟩
end Go.Proofs.Ytladkknbkgomfaa
