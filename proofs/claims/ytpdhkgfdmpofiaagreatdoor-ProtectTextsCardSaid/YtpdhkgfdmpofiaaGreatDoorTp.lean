/-
  Text of package protect.
-/
import Derived.Test.YtpdhkgfdmpofiaaGreatDoorTt
import Derived.Test.YtpdhkgfdmpofiaaGreatDoorEf
set_option linter.unusedSimpArgs false
set_option linter.unusedVariables false
namespace Go.Proofs.YtpdhkgfdmpofiaaGreatDoor
open Sx Go.RowKit
theorem idx7 (n : Nat → Int) (W : World) (j : Nat) (hj : j < 7) : (Instr.index 23 (.agg #[.int .i64 (n 11), .int .i64 (n 12), .int .i64 (n 13), .int .i64 (n 14), .int .i64 (n 15), .int .i64 (n 16), .int .i64 (n 17)]) (.int .i64 (j : Int))).run Tryz.prog W = .ok (.int .i64 (n (11 + j))) W := by
  have hu := Tryz.underlying23
  have hc : Tryz.prog.cellsOf 3 = 1 := by kernel_rfl
  have h3 : j = 0 ∨ j = 1 ∨ j = 2 ∨ j = 3 ∨ j = 4 ∨ j = 5 ∨ j = 6 := by omega
  rcases h3 with rfl | rfl | rfl | rfl | rfl | rfl | rfl
  all_goals
    simp only [Instr.index, Sem.run_bind, asIntOf, Sem.run_pure, Result.andThen_ok, run_underlying hu]
    simp
    simp only [part, Sem.run_bind, run_isAgg_plain Tryz.underlying3 rfl, Result.andThen_ok]
    rfl
theorem drange {W : World} {b : Nat} {n : Nat → Int} (h : W.heap[b]? = some (gObj n)) : W.rangeAt b 11 [.int .i64 (n 11), .int .i64 (n 12), .int .i64 (n 13), .int .i64 (n 14), .int .i64 (n 15), .int .i64 (n 16), .int .i64 (n 17)] := fun j v hv => by
  have hj : j < 7 := (List.getElem?_eq_some_iff.1 hv).1
  have := gcells h (show 11 + j < 22 by omega)
  rw [this]
  have hc : j = 0 ∨ j = 1 ∨ j = 2 ∨ j = 3 ∨ j = 4 ∨ j = 5 ∨ j = 6 := by omega
  rcases hc with rfl | rfl | rfl | rfl | rfl | rfl | rfl <;> exact hv
theorem dsize : (Tryz.prog.info? 23).map (·.size) = some 7 := by kernel_rfl
theorem srange {W : World} {b : Nat} {n : Nat → Int} (h : W.heap[b]? = some (gObj n)) : IntAt (some ⟨b, 6, none⟩) [n 6, n 7, n 8, n 9, n 10] W := fun _ => ⟨b, 6, rfl, blk_lt h, fun k hk => by
  have hk5 : k < 5 := hk
  have := gcells h (show 6 + k < 22 by omega)
  rw [this]
  have hc : k = 0 ∨ k = 1 ∨ k = 2 ∨ k = 3 ∨ k = 4 := by omega
  rcases hc with rfl | rfl | rfl | rfl | rfl <;> rfl⟩
/-- The region that builds six numbers and appends five. -/
structure GR (w : World) (n : Nat → Int) (b0 b1 : Bool) (v0 v1 : Value) (W : World) : Prop where
  mq : MQ w w.heap.size (oneO w.heap.size (gObj n)) (fun s => if s = 0 then (if b1 = true then some (v1, (gL n).take 11) else if b0 = true then some (v0, (gL n).take 6) else none) else none) W
  i1 : b1 = true → b0 = true
section
variable {w W w2 w' : World} {n : Nat → Int} {b0 b1 : Bool} {v0 v1 v' : Value}
theorem GR.step (h : GR w n b0 b1 v0 v1 W) (hb : Below W.heap.size W w2) : GR w n b0 b1 v0 v1 w2 := ⟨h.mq.step hb, h.i1⟩
theorem GR.start (hb : Below w.heap.size w W) (h : W.heap[w.heap.size]? = some (gObj n)) : GR w n false false v0 v1 W := by
  refine ⟨⟨Nat.le_refl _, fun p o e => ?_, hb, hb.size, fun p o e => ?_, fun s v xs e => ?_, fun s s' v xs v' xs' hn e => ?_⟩, (fun e => by cases e)⟩
  · unfold oneO at e
    split at e
    · obtain rfl := Option.some.inj e
      exact Or.inr ⟨_, _, _, rfl, guard_ne⟩
    · cases e
  · unfold oneO at e
    split at e
    · rename_i c
      subst c
      obtain rfl := Option.some.inj e
      exact h
    · cases e
  · split at e <;> cases e
  · split at e <;> cases e
theorem GR.bk (h : GR w n b0 b1 v0 v1 W) : W.heap[w.heap.size]? = some (gObj n) := h.mq.sb _ _ (if_pos rfl)
theorem GR.mk0 (h : GR w n false b1 v0 v1 W) : GR w n true b1 (.slice (some ⟨W.heap.size, 0, none⟩) 6 6) v1 (W.alloc (.cells #[.int .i64 (n 0), .int .i64 (n 1), .int .i64 (n 2), .int .i64 (n 3), .int .i64 (n 4), .int .i64 (n 5)] 2)) := by
  obtain rfl : b1 = false := by
    cases b1 with
    | false => rfl
    | true => exact absurd (h.i1 rfl) (by decide)
  refine ⟨(h.mq.freshN 0 [n 0, n 1, n 2, n 3, n 4, n 5] (by unfold maxLen; simp)).congr fun s => ?_, (fun e => by cases e)⟩
  by_cases c : s = 0
  · subst c; rfl
  · rw [updF_ne c, if_neg c, if_neg c]
theorem GR.own (h : GR w n true false v0 v1 W) : IntOwn W w.heap.size v0 ((gL n).take 6) := h.mq.own 0 _ _ rfl
theorem GR.mk1 (h : GR w n true false v0 v1 W) (ho : IntOwn w' w.heap.size v' ((gL n).take 6 ++ [n 6, n 7, n 8, n 9, n 10])) (hg : W.grownBy w' v0.ownBlock) (hat : v'.ownBlock = v0.ownBlock ∨ v'.ownBlock = some W.heap.size) : GR w n true true v0 v' w' := by
  refine ⟨(h.mq.app 0 (v := v0) (xs := (gL n).take 6) rfl ho hg hat).congr fun s => ?_, fun _ => rfl⟩
  by_cases c : s = 0
  · subst c; rfl
  · rw [updF_ne c, if_neg c, if_neg c]
theorem GR.fin (h : GR w n b0 true v0 v1 W) : GS w n v1 11 W := ⟨h.mq.congr fun s => by
  unfold rowO
  by_cases c : s = 0
  · subst c; rfl
  · rw [if_neg c, if_neg c]⟩
end
/-- The words of the first numbers. -/
def wdS (n : Nat → Int) (k : Nat) : List ByteArray := ⟨#[103, 117, 97, 114, 100]⟩ :: ((gL n).take k).map fun x => ⟨(Lib.itoa x).toArray⟩
theorem wdS_len (n : Nat → Int) {k : Nat} (h : k ≤ 22) : (wdS n k).length = k + 1 := by
  unfold wdS
  rw [List.length_cons, List.length_map, List.length_take, gL_len]
  omega
theorem wdS_more (n : Nat → Int) {k : Nat} (h : k < 22) : wdS n (k + 1) = wdS n k ++ [⟨(Lib.itoa (n k)).toArray⟩] := by
  unfold wdS
  rw [gL_take n h, List.map_append]
  rfl
theorem wdS_all (n : Nat → Int) : Lib.join ((wdS n 22).map (·.data.toList)) (ByteArray.mk #[32]).data.toList = gTxt (gL n) := by
  unfold wdS gTxt gZ
  rw [List.map_cons, List.map_map, List.take_of_length_le (by rw [gL_len]; exact Nat.le_refl _)]
  have e : (gL n).map ((fun x : ByteArray => x.data.toList) ∘ fun x => (⟨(Lib.itoa x).toArray⟩ : ByteArray)) = (gL n).map Lib.itoa := List.map_congr_left fun x _ => by simp
  rw [e]
  rfl
set_option maxHeartbeats 4000000 in
set_option maxRecDepth 20000 in
theorem PText_any (n : Nat → Int) (w : World) (hG : Glob0 w) : Calls Tryz.prog 5 #[.agg #[.int .i64 (n 0), .int .i64 (n 1), .int .i64 (n 2), .int .i64 (n 3), .int .i64 (n 4), .int .i64 (n 5), .int .i64 (n 6), .int .i64 (n 7), .int .i64 (n 8), .int .i64 (n 9), .int .i64 (n 10), .int .i64 (n 11), .int .i64 (n 12), .int .i64 (n 13), .int .i64 (n 14), .int .i64 (n 15), .int .i64 (n 16), .int .i64 (n 17), .int .i64 (n 18), .int .i64 (n 19), .int .i64 (n 20), .int .i64 (n 21)]] w fun e w' => e = .returned (.tuple #[.string (txS n).1, .int .i64 (txS n).2]) ∧ Below w.heap.size w w' := by
  have CK := Lib.hid (fun W hG => PCheck_any n W hG)
  have HG := Lib.hid hG
  have B0 := Lib.hid (blk_new w (gObj n))
  by_cases hk : chkR n = 0
  · rw [txS_ok hk]
    rw [hk] at CK
    dsimp only
    have HK := Lib.hid hk
    clear hk hG
    obtain ⟨i0, hi, hz0, hz1, hz2⟩ := info_parts infoS
    go_enter Tryz.func5, Tryz.ntmps5
    go_upto_region 4 with (first | (refine wpList_load_mid rfl 25 (.tmp 1) rfl w.heap.size 0 rfl [.int .i64 (n 0), .int .i64 (n 1), .int .i64 (n 2), .int .i64 (n 3), .int .i64 (n 4), .int .i64 (n 5), .int .i64 (n 6), .int .i64 (n 7), .int .i64 (n 8), .int .i64 (n 9), .int .i64 (n 10), .int .i64 (n 11), .int .i64 (n 12), .int .i64 (n 13), .int .i64 (n 14), .int .i64 (n 15), .int .i64 (n 16), .int .i64 (n 17), .int .i64 (n 18), .int .i64 (n 19), .int .i64 (n 20), .int .i64 (n 21)] _ (grange B0.out) Tryz.underlying25 rfl gsize ?_) | (go_at_call 15; refine (CK.out _ (gstep HG.out (by repeat' (first | exact Below.refl _ _ | assumption | apply bDrewN | apply bDrew | apply bAlloc | (refine bSet ?_ ?_ _) | (refine bStep ?_ (by assumption)) | omega | (simp <;> omega))))).mono ?_; rintro e w1 ⟨rfl, hb1⟩; replace B0 := Lib.hid (blk_step B0.out hb1)))
    have K1 : Below w.heap.size w w1 := (by repeat' (first | exact Below.refl _ _ | assumption | apply bDrewN | apply bDrew | apply bAlloc | (refine bSet ?_ ?_ _) | (refine bStep ?_ (by assumption)) | omega | (simp <;> omega)))
    have R0 := Lib.hid (fun v0 v1 => GR.start (v0 := v0) (v1 := v1) K1 B0.out)
    clear K1 B0 hb1 CK
    refine region_effs 16 16 [(12, 28), (15, 31)] [(none, []), (none, []), (none, []), (none, []), (none, []), (none, []), (none, []), (none, []), (none, []), (none, []), (none, []), (none, []), (some 0, []), (none, []), (none, []), (some 1, [0])] [(16, (.pointer (some ⟨w.heap.size, 0, none⟩))), (17, (.int .i64 (n 0))), (18, (.pointer (some ⟨w.heap.size, 1, none⟩))), (19, (.int .i64 (n 1))), (20, (.pointer (some ⟨w.heap.size, 2, none⟩))), (21, (.int .i64 (n 2))), (22, (.pointer (some ⟨w.heap.size, 3, none⟩))), (23, (.int .i64 (n 3))), (24, (.pointer (some ⟨w.heap.size, 4, none⟩))), (25, (.int .i64 (n 4))), (26, (.pointer (some ⟨w.heap.size, 5, none⟩))), (27, (.int .i64 (n 5))), (29, (.pointer (some ⟨w.heap.size, 6, none⟩))), (30, (.slice (some ⟨w.heap.size, 6, none⟩) 5 5))] (fun bsE vsE W => GR w n (bsE.getD 0 false) (bsE.getD 1 false) (vsE.getD 0 undef) (vsE.getD 1 undef) W) (by kernel_rfl) (by kernel_rfl) rfl (by kernel_rfl) (by kernel_rfl) (by simp) (by rfl) ?h0 ?each ?tail
    case h0 =>
      intro vsE hlv
      obtain ⟨v0, vsE0, rfl, hlv0⟩ := len_one hlv
      obtain ⟨v1, vsE1, rfl, hlv1⟩ := len_one hlv0
      obtain rfl := len_nil hlv1
      exact (R0.out v0 v1).step (Below.refl _ _).drew
    case each =>
      simp only [List.take_succ_cons, List.take_zero, AllE]
      refine ⟨?_, ?_, ?_, ?_, ?_, ?_, ?_, ?_, ?_, ?_, ?_, ?_, ?_, ?_, ?_, ?_, trivial⟩
      · refine ⟨16, (.pointer (some ⟨w.heap.size, 0, none⟩)), rfl, by kernel_rfl, ?_⟩
        intro bsE vsE W hlb hlv hnd h
        obtain ⟨b0, bsE0, rfl, hlb0⟩ := len_one hlb
        obtain ⟨v0, vsE0, rfl, hlv0⟩ := len_one hlv
        obtain ⟨b1, bsE1, rfl, hlb1⟩ := len_one hlb0
        obtain ⟨v1, vsE1, rfl, hlv1⟩ := len_one hlv0
        obtain rfl := len_nil hlb1
        obtain rfl := len_nil hlv1
        replace h : GR w n b0 b1 v0 v1 W := h
        clear hnd
        have HST := Lib.hid h
        intro K Q hK
        simp only [putE, updAll, Act.put, List.setIfInBounds_toArray, List.set_cons_zero, List.set_cons_succ, List.set_nil] at hK ⊢
        go_wp2_with (fail)
        all_goals (first | exact hK _ (by first | exact h | exact h.step (by repeat' (first | exact Below.refl _ _ | apply bDrewN | apply bDrew))) | exact (by first | exact h | exact h.step (by repeat' (first | exact Below.refl _ _ | apply bDrewN | apply bDrew))))
      · refine ⟨17, (.int .i64 (n 0)), rfl, by kernel_rfl, ?_⟩
        intro bsE vsE W hlb hlv hnd h
        obtain ⟨b0, bsE0, rfl, hlb0⟩ := len_one hlb
        obtain ⟨v0, vsE0, rfl, hlv0⟩ := len_one hlv
        obtain ⟨b1, bsE1, rfl, hlb1⟩ := len_one hlb0
        obtain ⟨v1, vsE1, rfl, hlv1⟩ := len_one hlv0
        obtain rfl := len_nil hlb1
        obtain rfl := len_nil hlv1
        replace h : GR w n b0 b1 v0 v1 W := h
        clear hnd
        have HST := Lib.hid h
        have g0 := gcells h.bk (show 0 < 22 by decide); have l0 := blk_lt h.bk
        intro K Q hK
        simp only [putE, updAll, Act.put, List.setIfInBounds_toArray, List.set_cons_zero, List.set_cons_succ, List.set_nil] at hK ⊢
        go_wp2_with (fail)
        all_goals (first | exact hK _ (by first | exact h | exact h.step (by repeat' (first | exact Below.refl _ _ | apply bDrewN | apply bDrew))) | exact (by first | exact h | exact h.step (by repeat' (first | exact Below.refl _ _ | apply bDrewN | apply bDrew))))
      · refine ⟨18, (.pointer (some ⟨w.heap.size, 1, none⟩)), rfl, by kernel_rfl, ?_⟩
        intro bsE vsE W hlb hlv hnd h
        obtain ⟨b0, bsE0, rfl, hlb0⟩ := len_one hlb
        obtain ⟨v0, vsE0, rfl, hlv0⟩ := len_one hlv
        obtain ⟨b1, bsE1, rfl, hlb1⟩ := len_one hlb0
        obtain ⟨v1, vsE1, rfl, hlv1⟩ := len_one hlv0
        obtain rfl := len_nil hlb1
        obtain rfl := len_nil hlv1
        replace h : GR w n b0 b1 v0 v1 W := h
        clear hnd
        have HST := Lib.hid h
        intro K Q hK
        simp only [putE, updAll, Act.put, List.setIfInBounds_toArray, List.set_cons_zero, List.set_cons_succ, List.set_nil] at hK ⊢
        go_wp2_with (fail)
        all_goals (first | exact hK _ (by first | exact h | exact h.step (by repeat' (first | exact Below.refl _ _ | apply bDrewN | apply bDrew))) | exact (by first | exact h | exact h.step (by repeat' (first | exact Below.refl _ _ | apply bDrewN | apply bDrew))))
      · refine ⟨19, (.int .i64 (n 1)), rfl, by kernel_rfl, ?_⟩
        intro bsE vsE W hlb hlv hnd h
        obtain ⟨b0, bsE0, rfl, hlb0⟩ := len_one hlb
        obtain ⟨v0, vsE0, rfl, hlv0⟩ := len_one hlv
        obtain ⟨b1, bsE1, rfl, hlb1⟩ := len_one hlb0
        obtain ⟨v1, vsE1, rfl, hlv1⟩ := len_one hlv0
        obtain rfl := len_nil hlb1
        obtain rfl := len_nil hlv1
        replace h : GR w n b0 b1 v0 v1 W := h
        clear hnd
        have HST := Lib.hid h
        have g0 := gcells h.bk (show 1 < 22 by decide); have l0 := blk_lt h.bk
        intro K Q hK
        simp only [putE, updAll, Act.put, List.setIfInBounds_toArray, List.set_cons_zero, List.set_cons_succ, List.set_nil] at hK ⊢
        go_wp2_with (fail)
        all_goals (first | exact hK _ (by first | exact h | exact h.step (by repeat' (first | exact Below.refl _ _ | apply bDrewN | apply bDrew))) | exact (by first | exact h | exact h.step (by repeat' (first | exact Below.refl _ _ | apply bDrewN | apply bDrew))))
      · refine ⟨20, (.pointer (some ⟨w.heap.size, 2, none⟩)), rfl, by kernel_rfl, ?_⟩
        intro bsE vsE W hlb hlv hnd h
        obtain ⟨b0, bsE0, rfl, hlb0⟩ := len_one hlb
        obtain ⟨v0, vsE0, rfl, hlv0⟩ := len_one hlv
        obtain ⟨b1, bsE1, rfl, hlb1⟩ := len_one hlb0
        obtain ⟨v1, vsE1, rfl, hlv1⟩ := len_one hlv0
        obtain rfl := len_nil hlb1
        obtain rfl := len_nil hlv1
        replace h : GR w n b0 b1 v0 v1 W := h
        clear hnd
        have HST := Lib.hid h
        intro K Q hK
        simp only [putE, updAll, Act.put, List.setIfInBounds_toArray, List.set_cons_zero, List.set_cons_succ, List.set_nil] at hK ⊢
        go_wp2_with (fail)
        all_goals (first | exact hK _ (by first | exact h | exact h.step (by repeat' (first | exact Below.refl _ _ | apply bDrewN | apply bDrew))) | exact (by first | exact h | exact h.step (by repeat' (first | exact Below.refl _ _ | apply bDrewN | apply bDrew))))
      · refine ⟨21, (.int .i64 (n 2)), rfl, by kernel_rfl, ?_⟩
        intro bsE vsE W hlb hlv hnd h
        obtain ⟨b0, bsE0, rfl, hlb0⟩ := len_one hlb
        obtain ⟨v0, vsE0, rfl, hlv0⟩ := len_one hlv
        obtain ⟨b1, bsE1, rfl, hlb1⟩ := len_one hlb0
        obtain ⟨v1, vsE1, rfl, hlv1⟩ := len_one hlv0
        obtain rfl := len_nil hlb1
        obtain rfl := len_nil hlv1
        replace h : GR w n b0 b1 v0 v1 W := h
        clear hnd
        have HST := Lib.hid h
        have g0 := gcells h.bk (show 2 < 22 by decide); have l0 := blk_lt h.bk
        intro K Q hK
        simp only [putE, updAll, Act.put, List.setIfInBounds_toArray, List.set_cons_zero, List.set_cons_succ, List.set_nil] at hK ⊢
        go_wp2_with (fail)
        all_goals (first | exact hK _ (by first | exact h | exact h.step (by repeat' (first | exact Below.refl _ _ | apply bDrewN | apply bDrew))) | exact (by first | exact h | exact h.step (by repeat' (first | exact Below.refl _ _ | apply bDrewN | apply bDrew))))
      · refine ⟨22, (.pointer (some ⟨w.heap.size, 3, none⟩)), rfl, by kernel_rfl, ?_⟩
        intro bsE vsE W hlb hlv hnd h
        obtain ⟨b0, bsE0, rfl, hlb0⟩ := len_one hlb
        obtain ⟨v0, vsE0, rfl, hlv0⟩ := len_one hlv
        obtain ⟨b1, bsE1, rfl, hlb1⟩ := len_one hlb0
        obtain ⟨v1, vsE1, rfl, hlv1⟩ := len_one hlv0
        obtain rfl := len_nil hlb1
        obtain rfl := len_nil hlv1
        replace h : GR w n b0 b1 v0 v1 W := h
        clear hnd
        have HST := Lib.hid h
        intro K Q hK
        simp only [putE, updAll, Act.put, List.setIfInBounds_toArray, List.set_cons_zero, List.set_cons_succ, List.set_nil] at hK ⊢
        go_wp2_with (fail)
        all_goals (first | exact hK _ (by first | exact h | exact h.step (by repeat' (first | exact Below.refl _ _ | apply bDrewN | apply bDrew))) | exact (by first | exact h | exact h.step (by repeat' (first | exact Below.refl _ _ | apply bDrewN | apply bDrew))))
      · refine ⟨23, (.int .i64 (n 3)), rfl, by kernel_rfl, ?_⟩
        intro bsE vsE W hlb hlv hnd h
        obtain ⟨b0, bsE0, rfl, hlb0⟩ := len_one hlb
        obtain ⟨v0, vsE0, rfl, hlv0⟩ := len_one hlv
        obtain ⟨b1, bsE1, rfl, hlb1⟩ := len_one hlb0
        obtain ⟨v1, vsE1, rfl, hlv1⟩ := len_one hlv0
        obtain rfl := len_nil hlb1
        obtain rfl := len_nil hlv1
        replace h : GR w n b0 b1 v0 v1 W := h
        clear hnd
        have HST := Lib.hid h
        have g0 := gcells h.bk (show 3 < 22 by decide); have l0 := blk_lt h.bk
        intro K Q hK
        simp only [putE, updAll, Act.put, List.setIfInBounds_toArray, List.set_cons_zero, List.set_cons_succ, List.set_nil] at hK ⊢
        go_wp2_with (fail)
        all_goals (first | exact hK _ (by first | exact h | exact h.step (by repeat' (first | exact Below.refl _ _ | apply bDrewN | apply bDrew))) | exact (by first | exact h | exact h.step (by repeat' (first | exact Below.refl _ _ | apply bDrewN | apply bDrew))))
      · refine ⟨24, (.pointer (some ⟨w.heap.size, 4, none⟩)), rfl, by kernel_rfl, ?_⟩
        intro bsE vsE W hlb hlv hnd h
        obtain ⟨b0, bsE0, rfl, hlb0⟩ := len_one hlb
        obtain ⟨v0, vsE0, rfl, hlv0⟩ := len_one hlv
        obtain ⟨b1, bsE1, rfl, hlb1⟩ := len_one hlb0
        obtain ⟨v1, vsE1, rfl, hlv1⟩ := len_one hlv0
        obtain rfl := len_nil hlb1
        obtain rfl := len_nil hlv1
        replace h : GR w n b0 b1 v0 v1 W := h
        clear hnd
        have HST := Lib.hid h
        intro K Q hK
        simp only [putE, updAll, Act.put, List.setIfInBounds_toArray, List.set_cons_zero, List.set_cons_succ, List.set_nil] at hK ⊢
        go_wp2_with (fail)
        all_goals (first | exact hK _ (by first | exact h | exact h.step (by repeat' (first | exact Below.refl _ _ | apply bDrewN | apply bDrew))) | exact (by first | exact h | exact h.step (by repeat' (first | exact Below.refl _ _ | apply bDrewN | apply bDrew))))
      · refine ⟨25, (.int .i64 (n 4)), rfl, by kernel_rfl, ?_⟩
        intro bsE vsE W hlb hlv hnd h
        obtain ⟨b0, bsE0, rfl, hlb0⟩ := len_one hlb
        obtain ⟨v0, vsE0, rfl, hlv0⟩ := len_one hlv
        obtain ⟨b1, bsE1, rfl, hlb1⟩ := len_one hlb0
        obtain ⟨v1, vsE1, rfl, hlv1⟩ := len_one hlv0
        obtain rfl := len_nil hlb1
        obtain rfl := len_nil hlv1
        replace h : GR w n b0 b1 v0 v1 W := h
        clear hnd
        have HST := Lib.hid h
        have g0 := gcells h.bk (show 4 < 22 by decide); have l0 := blk_lt h.bk
        intro K Q hK
        simp only [putE, updAll, Act.put, List.setIfInBounds_toArray, List.set_cons_zero, List.set_cons_succ, List.set_nil] at hK ⊢
        go_wp2_with (fail)
        all_goals (first | exact hK _ (by first | exact h | exact h.step (by repeat' (first | exact Below.refl _ _ | apply bDrewN | apply bDrew))) | exact (by first | exact h | exact h.step (by repeat' (first | exact Below.refl _ _ | apply bDrewN | apply bDrew))))
      · refine ⟨26, (.pointer (some ⟨w.heap.size, 5, none⟩)), rfl, by kernel_rfl, ?_⟩
        intro bsE vsE W hlb hlv hnd h
        obtain ⟨b0, bsE0, rfl, hlb0⟩ := len_one hlb
        obtain ⟨v0, vsE0, rfl, hlv0⟩ := len_one hlv
        obtain ⟨b1, bsE1, rfl, hlb1⟩ := len_one hlb0
        obtain ⟨v1, vsE1, rfl, hlv1⟩ := len_one hlv0
        obtain rfl := len_nil hlb1
        obtain rfl := len_nil hlv1
        replace h : GR w n b0 b1 v0 v1 W := h
        clear hnd
        have HST := Lib.hid h
        intro K Q hK
        simp only [putE, updAll, Act.put, List.setIfInBounds_toArray, List.set_cons_zero, List.set_cons_succ, List.set_nil] at hK ⊢
        go_wp2_with (fail)
        all_goals (first | exact hK _ (by first | exact h | exact h.step (by repeat' (first | exact Below.refl _ _ | apply bDrewN | apply bDrew))) | exact (by first | exact h | exact h.step (by repeat' (first | exact Below.refl _ _ | apply bDrewN | apply bDrew))))
      · refine ⟨27, (.int .i64 (n 5)), rfl, by kernel_rfl, ?_⟩
        intro bsE vsE W hlb hlv hnd h
        obtain ⟨b0, bsE0, rfl, hlb0⟩ := len_one hlb
        obtain ⟨v0, vsE0, rfl, hlv0⟩ := len_one hlv
        obtain ⟨b1, bsE1, rfl, hlb1⟩ := len_one hlb0
        obtain ⟨v1, vsE1, rfl, hlv1⟩ := len_one hlv0
        obtain rfl := len_nil hlb1
        obtain rfl := len_nil hlv1
        replace h : GR w n b0 b1 v0 v1 W := h
        clear hnd
        have HST := Lib.hid h
        have g0 := gcells h.bk (show 5 < 22 by decide); have l0 := blk_lt h.bk
        intro K Q hK
        simp only [putE, updAll, Act.put, List.setIfInBounds_toArray, List.set_cons_zero, List.set_cons_succ, List.set_nil] at hK ⊢
        go_wp2_with (fail)
        all_goals (first | exact hK _ (by first | exact h | exact h.step (by repeat' (first | exact Below.refl _ _ | apply bDrewN | apply bDrew))) | exact (by first | exact h | exact h.step (by repeat' (first | exact Below.refl _ _ | apply bDrewN | apply bDrew))))
      · refine ⟨28, rfl, ?_⟩
        intro bsE vsE W hlb hlv hnd hbk h
        obtain ⟨b0, bsE0, rfl, hlb0⟩ := len_one hlb
        obtain ⟨v0, vsE0, rfl, hlv0⟩ := len_one hlv
        obtain ⟨b1, bsE1, rfl, hlb1⟩ := len_one hlb0
        obtain ⟨v1, vsE1, rfl, hlv1⟩ := len_one hlv0
        obtain rfl := len_nil hlb1
        obtain rfl := len_nil hlv1
        obtain rfl : b0 = false := hbk
        replace h : GR w n false b1 v0 v1 W := h
        clear hnd
        have HST := Lib.hid h
        intro K Q hK
        simp only [putE, updAll, Act.put, List.setIfInBounds_toArray, List.set_cons_zero, List.set_cons_succ, List.set_nil] at hK ⊢
        go_wp2_with fail
        all_goals (first | exact hK _ _ h.mk0 | exact h.mk0)
      · refine ⟨29, (.pointer (some ⟨w.heap.size, 6, none⟩)), rfl, by kernel_rfl, ?_⟩
        intro bsE vsE W hlb hlv hnd h
        obtain ⟨b0, bsE0, rfl, hlb0⟩ := len_one hlb
        obtain ⟨v0, vsE0, rfl, hlv0⟩ := len_one hlv
        obtain ⟨b1, bsE1, rfl, hlb1⟩ := len_one hlb0
        obtain ⟨v1, vsE1, rfl, hlv1⟩ := len_one hlv0
        obtain rfl := len_nil hlb1
        obtain rfl := len_nil hlv1
        replace h : GR w n b0 b1 v0 v1 W := h
        clear hnd
        have HST := Lib.hid h
        intro K Q hK
        simp only [putE, updAll, Act.put, List.setIfInBounds_toArray, List.set_cons_zero, List.set_cons_succ, List.set_nil] at hK ⊢
        go_wp2_with (fail)
        all_goals (first | exact hK _ (by first | exact h | exact h.step (by repeat' (first | exact Below.refl _ _ | apply bDrewN | apply bDrew))) | exact (by first | exact h | exact h.step (by repeat' (first | exact Below.refl _ _ | apply bDrewN | apply bDrew))))
      · refine ⟨30, (.slice (some ⟨w.heap.size, 6, none⟩) 5 5), rfl, by kernel_rfl, ?_⟩
        intro bsE vsE W hlb hlv hnd h
        obtain ⟨b0, bsE0, rfl, hlb0⟩ := len_one hlb
        obtain ⟨v0, vsE0, rfl, hlv0⟩ := len_one hlv
        obtain ⟨b1, bsE1, rfl, hlb1⟩ := len_one hlb0
        obtain ⟨v1, vsE1, rfl, hlv1⟩ := len_one hlv0
        obtain rfl := len_nil hlb1
        obtain rfl := len_nil hlv1
        replace h : GR w n b0 b1 v0 v1 W := h
        clear hnd
        have HST := Lib.hid h
        intro K Q hK
        simp only [putE, updAll, Act.put, List.setIfInBounds_toArray, List.set_cons_zero, List.set_cons_succ, List.set_nil] at hK ⊢
        go_wp2_with (fail)
        all_goals (first | exact hK _ (by first | exact h | exact h.step (by repeat' (first | exact Below.refl _ _ | apply bDrewN | apply bDrew))) | exact (by first | exact h | exact h.step (by repeat' (first | exact Below.refl _ _ | apply bDrewN | apply bDrew))))
      · refine ⟨31, rfl, ?_⟩
        intro bsE vsE W hlb hlv hnd hbk h
        obtain ⟨b0, bsE0, rfl, hlb0⟩ := len_one hlb
        obtain ⟨v0, vsE0, rfl, hlv0⟩ := len_one hlv
        obtain ⟨b1, bsE1, rfl, hlb1⟩ := len_one hlb0
        obtain ⟨v1, vsE1, rfl, hlv1⟩ := len_one hlv0
        obtain rfl := len_nil hlb1
        obtain rfl := len_nil hlv1
        obtain rfl : b0 = true := hnd 0 (by simp)
        obtain rfl : b1 = false := hbk
        replace h : GR w n true false v0 v1 W := h
        clear hnd
        have HST := Lib.hid h
        intro K Q hK
        simp only [putE, updAll, Act.put, List.setIfInBounds_toArray, List.set_cons_zero, List.set_cons_succ, List.set_nil] at hK ⊢
        refine wp_app_copy _ (.tmp 28) (.tmp 30) rfl v0 rfl w.heap.size _ h.own (some ⟨w.heap.size, 6, none⟩) [n 6, n 7, n 8, n 9, n 10] 5 rfl (srange h.bk) (by simp; omega) h.mq.sz ?_
        intro v' w' ho hg hat
        first | exact hK _ _ (h.mk1 ho hg hat) | exact h.mk1 ho hg hat
    case tail =>
      intro vsE W hlv h
      obtain ⟨v0, vsE0, rfl, hlv0⟩ := len_one hlv
      obtain ⟨v1, vsE1, rfl, hlv1⟩ := len_one hlv0
      obtain rfl := len_nil hlv1
      replace h : GR w n true true v0 v1 W := h
      have HST := Lib.hid h
      have P0 := Lib.hid h.fin
      refine wpOp_plain rfl rfl ?_
      simp only [putE, updAll, Act.put, List.setIfInBounds_toArray, List.set_cons_zero, List.set_cons_succ, List.set_nil]
      go_wp2_with (refine wpList_load_mid rfl 23 (.tmp 32) rfl w.heap.size 11 rfl [.int .i64 (n 11), .int .i64 (n 12), .int .i64 (n 13), .int .i64 (n 14), .int .i64 (n 15), .int .i64 (n 16), .int .i64 (n 17)] _ (drange P0.out.bk) Tryz.underlying23 rfl dsize ?_)
      clear h HST R0
      go_loopw [5, 7, 34] (fun v _ i wr => ∃ k : Nat, k ≤ 7 ∧ i = .int .i64 k ∧ Hid (GS w n v (11 + k) wr)) (fun _ _ i _ => 7 - (intOf i).toNat)
      case atStart => exact ⟨0, by omega, rfl, P0⟩
      case round =>
        obtain ⟨k, hk, rfl, P1⟩ := hrel
        clear P0
        have P0 := P1
        clear P1
        have i1 : (0 : Int) ≤ (k : Int) := by omega
        by_cases hlt : k < 7
        · have hlt2 : (k : Int) < 7 := by omega
          have hix := idx7 n wr k hlt
          have HT := Lib.hid (gL_take n (show 11 + k < 22 by omega))
          go_wp2_with (at_builtin; refine wpList_app_copy _ rfl (.tmp 37) (.tmp 39) rfl _ rfl w.heap.size _ (P0.out.own1 [n (11 + k)] (by unfold maxLen; simp)) (some ⟨_, 0, none⟩) [n (11 + k)] 1 rfl (P0.out.src1 [n (11 + k)] (by unfold maxLen; simp)) (by simp; omega) (P0.out.sz1 _) ?_; intro v2 w3 ho hg hat; have P1 := Lib.hid (P0.out.app (k' := 11 + k + 1) [n (11 + k)] (by unfold maxLen; simp) HT.out ho hg hat); clear ho hg hat)
          go_roundw
          case rel => first | exact ⟨k + 1, by omega, by push_cast; rfl, P1⟩ | ((repeat apply Exists.intro); exact ⟨⟨k + 1, by omega, by push_cast; rfl, P1⟩, rfl⟩)
          case measure => (simp [intOf]; omega)
        · obtain rfl : k = 7 := by omega
          clear hlt hk i1
          replace P0 : Hid (GS w n u5 18 wr) := P0
          have g := fun (k : Nat) (hk : k < 22) => gcells P0.out.bk hk
          obtain ⟨c0, c1, c2, c3⟩ : wr.cell? ⟨w.heap.size, 18, none⟩ = some (.int .i64 (n 18)) ∧ wr.cell? ⟨w.heap.size, 19, none⟩ = some (.int .i64 (n 19)) ∧ wr.cell? ⟨w.heap.size, 20, none⟩ = some (.int .i64 (n 20)) ∧ wr.cell? ⟨w.heap.size, 21, none⟩ = some (.int .i64 (n 21)) := ⟨g 18 (by decide), g 19 (by decide), g 20 (by decide), g 21 (by decide)⟩
          have l0 := blk_lt P0.out.bk
          clear g
          go_wp2_with (at_builtin; refine wpList_app_copy _ rfl (.tmp 42) (.tmp 51) rfl _ rfl w.heap.size _ (P0.out.own1 [n 18, n 19, n 20, n 21] (by unfold maxLen; simp)) (some ⟨_, 0, none⟩) [n 18, n 19, n 20, n 21] 4 rfl (P0.out.src1 [n 18, n 19, n 20, n 21] (by unfold maxLen; simp)) (by simp; omega) (P0.out.sz1 _) ?_; intro v2 w3 ho hg hat; have P1 := Lib.hid (P0.out.app (k' := 22) [n 18, n 19, n 20, n 21] (by unfold maxLen; simp) rfl ho hg hat); clear ho hg hat c0 c1 c2 c3 l0; obtain ⟨g, cg, ex, -, hblk⟩ := IntOwn.blk P1.out.own (by simp [gL]); replace ex : v2 = .slice (some ⟨g, 0, none⟩) 22 cg := ex; subst ex; have HX := Lib.hid (show ∀ k, k < 22 → w3.cell? ⟨g, k, none⟩ = some (.int .i64 (n k)) from fun k hk => by have := (hblk.cells (k := k) (by simpa [gL] using hk)).1; rw [List.take_of_length_le (by rw [gL_len]; exact Nat.le_refl _), gL_get n hk] at this; exact this); have HGl := Lib.hid (cell_lt (HX.out 0 (by decide))); have K3 := Lib.hid P1.out.mq.bel; clear hblk P1 P0)
          have S0 : StOwn (w3.alloc (.cells #[.string ⟨#[103, 117, 97, 114, 100]⟩] 9)) w3.heap.size (.slice (some ⟨w3.heap.size, 0, none⟩) 1 1) (wdS n 0) := ⟨rfl, Or.inr ⟨_, _, _, rfl, Nat.le_refl _, blk_new w3 _, Nat.le_refl _, by decide, rfl, rfl⟩⟩
          have HS0 := Lib.hid S0
          clear S0
          go_loopw [8, 10, 56] (fun l _ i wr => ∃ k : Nat, k ≤ 22 ∧ i = .int .i64 k ∧ Hid (StOwn wr w3.heap.size l (wdS n k)) ∧ Below w3.heap.size w3 wr) (fun _ _ i _ => 22 - (intOf i).toNat)
          case atStart => exact ⟨0, by omega, rfl, HS0, bAl''⟩
          case round =>
            obtain ⟨k, hk, rfl, HO, kB⟩ := hrel
            clear HS0
            have i1 : (0 : Int) ≤ (k : Int) := by omega
            by_cases hlt : k < 22
            · have hlt2 : (k : Int) < 22 := by omega
              have g0 := (kB.cell (p := ⟨g, k, none⟩) HGl.out).trans (HX.out k hlt)
              have l0 := cell_lt g0
              have hm := gn_sm HK.out hlt
              have CF := Lib.hid (fun W hG => fmt_any (n k) (by omega) (by omega) W hG)
              have nx := Lib.hid (wdS_more n hlt)
              have zl := Lib.hid (wdS_len n (show k ≤ 22 by omega))
              generalize (ByteArray.mk (Lib.itoa (n k)).toArray) = t at *
              clear hm
              go_wp2_with (first
                | (go_at_call 16; refine (CF.out _ (gstep HG.out (bStep K3.out kB)).1).mono ?_; rintro e w4 ⟨rfl, hb4⟩)
                | (at_builtin; refine wpList_append_own _ rfl (.tmp 60) (.tmp 63) 53 rfl w3.heap.size 9 i0 (.string ⟨#[]⟩) 1 16 Tryz.underlying53 hi hz0 hz1 hz2 rfl (by decide) _ _ _ rfl (World.ownsRow.alloc (StOwn.step HO.out hb4) _) ⟨w4.heap.size, 0, none⟩ 1 1 [.string t] rfl rfl (one_cellS (blk_cell (blk_new _ _) rfl)) (one_oneS _) (by have := zl.out; unfold maxLen; omega) (by have := zl.out; omega) (by have := (bStep kB hb4).size; simp; omega) ?_; intro v' w5 hown hgrow hnil; have hO2 := Lib.hid (StOwn.more hown); have kB5 : Below w3.heap.size w3 w5 := (bAlloc (bStep kB hb4) _).grown hgrow (by have := (bStep kB hb4).size; simp; omega) (own_ge HO.out); clear hown hgrow hnil))
              go_roundw
              case rel => first | exact ⟨k + 1, by omega, by push_cast; rfl, by rw [nx.out]; exact hO2, kB5⟩ | ((repeat apply Exists.intro); exact ⟨⟨k + 1, by omega, by push_cast; rfl, by rw [nx.out]; exact hO2, kB5⟩, rfl⟩)
              case measure => (simp [intOf]; omega)
            · obtain rfl : k = 22 := by omega
              obtain ⟨g2, c2, ex2, q1, q2, q3⟩ := HO.out.cells (by simp [wdS])
              have zl := wdS_len n (Nat.le_refl 22)
              have J := Lib.hid (fun W hc hg => join_any g2 0 c2 (wdS n 22) ⟨#[32]⟩ W hc hg (by rw [zl]; decide) q1 (by rw [wdS_all]; have := gTxt_len (gL_len n) (gL_sm HK.out); omega))
              rw [wdS_all, zl] at J
              rw [zl] at ex2
              subst ex2
              have kF := bStep K3.out kB
              obtain ⟨t, ht⟩ : ∃ t, (⟨(gTxt (gL n)).toArray⟩ : ByteArray) = t := ⟨_, rfl⟩
              rw [ht] at J
              have HT := Lib.hid ht
              clear ht hlt hk i1 zl HO q1 HX HK
              go_wp2_with (go_at_call 17; refine (J.out _ q3 q2).mono ?_; rintro e w6 ⟨rfl, hb6⟩)
              exact bodyPost_ret (v := .tuple #[.string t, .int .i64 0]) (by simp only [results, Tryz.results5]; go_simp) rfl ⟨by rw [HT.out], bStep kF hb6⟩
  · rw [txS_no hk]
    have h2 : chkR n = 2 := by rcases chkR_02 n with h | h; exact absurd h hk; exact h
    rw [h2] at CK
    clear hk h2 hG
    go_enter Tryz.func5, Tryz.ntmps5
    go_wp2_with (first | (refine wpList_load_mid rfl 25 (.tmp 1) rfl w.heap.size 0 rfl [.int .i64 (n 0), .int .i64 (n 1), .int .i64 (n 2), .int .i64 (n 3), .int .i64 (n 4), .int .i64 (n 5), .int .i64 (n 6), .int .i64 (n 7), .int .i64 (n 8), .int .i64 (n 9), .int .i64 (n 10), .int .i64 (n 11), .int .i64 (n 12), .int .i64 (n 13), .int .i64 (n 14), .int .i64 (n 15), .int .i64 (n 16), .int .i64 (n 17), .int .i64 (n 18), .int .i64 (n 19), .int .i64 (n 20), .int .i64 (n 21)] _ (grange B0.out) Tryz.underlying25 rfl gsize ?_) | (go_at_call 15; refine (CK.out _ (gstep HG.out (by repeat' (first | exact Below.refl _ _ | assumption | apply bDrewN | apply bDrew | apply bAlloc | (refine bSet ?_ ?_ _) | (refine bStep ?_ (by assumption)) | omega | (simp <;> omega))))).mono ?_; rintro e w1 ⟨rfl, hb1⟩; replace B0 := Lib.hid (blk_step B0.out hb1)))
    exact bodyPost_ret (v := .tuple #[.string ⟨#[]⟩, .int .i64 2]) (by simp only [results, Tryz.results5]; go_simp) rfl ⟨rfl, (by repeat' (first | exact Below.refl _ _ | assumption | apply bDrewN | apply bDrew | apply bAlloc | (refine bSet ?_ ?_ _) | (refine bStep ?_ (by assumption)) | omega | (simp <;> omega)))⟩
end Go.Proofs.YtpdhkgfdmpofiaaGreatDoor
