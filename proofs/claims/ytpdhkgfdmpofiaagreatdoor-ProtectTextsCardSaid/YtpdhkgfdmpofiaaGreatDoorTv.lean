/-
  Parse of the reference.
-/
import Derived.Test.YtpdhkgfdmpofiaaGreatDoorTu
import Derived.Test.YtpdhkgfdmpofiaaGreatDoorEg
set_option linter.unusedSimpArgs false
set_option linter.unusedVariables false
namespace Go.Proofs.YtpdhkgfdmpofiaaGreatDoor
open Sx Go.RowKit
/-- A box, and a row that is being made. -/
structure RS (w : World) (n : Nat → Int) (v : Value) (xs : List Int) (W : World) : Prop where
  mq : MQ w w.heap.size (oneO w.heap.size (gObj n)) (rowO v xs) W
section
variable {w W w2 w' : World} {n : Nat → Int} {v v' : Value} {xs : List Int}
theorem RS.step (h : RS w n v xs W) (hb : Below W.heap.size W w2) : RS w n v xs w2 := ⟨h.mq.step hb⟩
theorem RS.bk (h : RS w n v xs W) : W.heap[w.heap.size]? = some (gObj n) := h.mq.sb _ _ (if_pos rfl)
theorem RS.own (h : RS w n v xs W) : IntOwn W w.heap.size v xs := h.mq.own 0 _ _ rfl
theorem RS.own1 (h : RS w n v xs W) (ys : List Int) (hl : ys.length ≤ maxLen) : IntOwn (W.alloc (.cells (flatI ys).toArray 2)) w.heap.size v xs := (h.mq.freshN 1 ys hl).own 0 _ _ rfl
theorem RS.src1 (h : RS w n v xs W) (ys : List Int) (hl : ys.length ≤ maxLen) : IntAt (some ⟨W.heap.size, 0, none⟩) ys (W.alloc (.cells (flatI ys).toArray 2)) := by
  obtain ⟨_, _, e, q⟩ := ((h.mq.freshN 1 ys hl).own 1 _ _ rfl).row
  cases e
  exact q
theorem RS.app (h : RS w n v xs W) (ys : List Int) (hl : ys.length ≤ maxLen) (ho : IntOwn w' w.heap.size v' (xs ++ ys)) (hg : (W.alloc (.cells (flatI ys).toArray 2)).grownBy w' v.ownBlock) (hat : v'.ownBlock = v.ownBlock ∨ v'.ownBlock = some (W.alloc (.cells (flatI ys).toArray 2)).heap.size) : RS w n v' (xs ++ ys) w' := by
  refine ⟨((h.mq.freshN 1 ys hl).app 0 (v := v) (xs := xs) rfl ho hg hat).less fun s p e => ?_⟩
  unfold rowO at e
  split at e
  · rename_i c
    subst c
    rw [updF_at]
    exact e
  · cases e
theorem RS.sz1 (h : RS w n v xs W) (o : Obj) : w.heap.size ≤ (W.alloc o).heap.size := by
  have := h.mq.sz
  simp
  omega
theorem RS.start : RS w n (.slice none 0 0) [] (w.alloc (gObj n)) := by
  have m0 : MQ w w.heap.size (fun _ => none) (fun _ => none) w := ⟨Nat.le_refl _, (fun _ _ e => by cases e), Below.refl _ _, Nat.le_refl _, (fun _ _ e => by cases e), (fun _ _ _ e => by cases e), (fun _ _ _ _ _ _ _ e => by cases e)⟩
  have m1 := m0.obj (cs := #[.int .i64 (n 0), .int .i64 (n 1), .int .i64 (n 2), .int .i64 (n 3), .int .i64 (n 4), .int .i64 (n 5), .int .i64 (n 6), .int .i64 (n 7), .int .i64 (n 8), .int .i64 (n 9), .int .i64 (n 10), .int .i64 (n 11), .int .i64 (n 12), .int .i64 (n 13), .int .i64 (n 14), .int .i64 (n 15), .int .i64 (n 16), .int .i64 (n 17), .int .i64 (n 18), .int .i64 (n 19), .int .i64 (n 20), .int .i64 (n 21)]) guard_ne
  have m2 := m1.put 0 (v := .slice none 0 0) (xs := []) IntOwn.nil (fun _ _ _ _ e => by cases e)
  refine ⟨(m2.congr fun s => ?_).congrL fun p => ?_⟩
  · by_cases c : s = 0
    · subst c; rfl
    · rw [updF_ne c]
      exact if_neg c
  · by_cases c : p = w.heap.size
    · subst c
      rw [updF_at]
      exact if_pos rfl
    · rw [updF_ne c]
      exact if_neg c
end
theorem ext_seg {s : ByteArray} {a i : Nat} : (s.extract a i).data.toList = seg s.data.toList a i := by rw [Lib.extract_eq]; unfold seg; simp
theorem neU {c d : UInt8} (h : ¬ c = d) : ((c.toNat : Int) != (d.toNat : Int)) = true := by
  simp only [bne_iff_ne, ne_eq]
  intro q
  exact h (UInt8.toNat_inj.1 (by omega))
theorem drop_get {X : List Int} {k : Nat} : nOfL (X.drop 1) k = X.getD (k + 1) 0 := by
  unfold nOfL
  rw [List.getD_eq_getElem?_getD, List.getElem?_drop, List.getD_eq_getElem?_getD, Nat.add_comm]
theorem drop_gL {X : List Int} (h : X.length = 23) : gL (nOfL (X.drop 1)) = X.drop 1 := gL_of (by rw [List.length_drop, h])
/-- The guard's box in the region that makes it. -/
structure BG (w0 : World) (m : Nat → Int) (b0 b1 : Bool) (v0 : Value) (W : World) : Prop where
  bel : Below w0.heap.size w0 W
  bx : b0 = true → ∃ r, v0 = .pointer (some ⟨r, 0, none⟩) ∧ w0.heap.size ≤ r ∧ W.heap[r]? = some (gObj (bif b1 then fillN m 6 else zN))
  i1 : b1 = true → b0 = true
section
variable {w0 W w2 : World} {m : Nat → Int} {b0 b1 : Bool} {v0 : Value}
theorem BG.step (h : BG w0 m b0 b1 v0 W) (hb : Below W.heap.size W w2) : BG w0 m b0 b1 v0 w2 := ⟨bStep h.bel hb, fun e => by obtain ⟨r, q1, q2, q3⟩ := h.bx e; exact ⟨r, q1, q2, blk_step q3 hb⟩, h.i1⟩
theorem BG.start (h : Below w0.heap.size w0 W) : BG w0 m false false v0 W := ⟨h, (fun e => by cases e), (fun e => by cases e)⟩
theorem BG.mk0 (h : BG w0 m false b1 v0 W) : BG w0 m true b1 (.pointer (some ⟨W.heap.size, 0, none⟩)) (W.alloc (.cells #[.int .i64 0, .int .i64 0, .int .i64 0, .int .i64 0, .int .i64 0, .int .i64 0, .int .i64 0, .int .i64 0, .int .i64 0, .int .i64 0, .int .i64 0, .int .i64 0, .int .i64 0, .int .i64 0, .int .i64 0, .int .i64 0, .int .i64 0, .int .i64 0, .int .i64 0, .int .i64 0, .int .i64 0, .int .i64 0] 25)) := by
  obtain rfl : b1 = false := by
    cases b1 with
    | false => rfl
    | true => exact absurd (h.i1 rfl) (by decide)
  exact ⟨bAlloc h.bel _, fun _ => ⟨_, rfl, h.bel.size, blk_new W (gObj zN)⟩, fun _ => rfl⟩
theorem BG.put {r : Nat} (h : BG w0 m true false (.pointer (some ⟨r, 0, none⟩)) W) : BG w0 m true true (.pointer (some ⟨r, 0, none⟩)) (W.setCells r 0 [.int .i64 (m 0), .int .i64 (m 1), .int .i64 (m 2), .int .i64 (m 3), .int .i64 (m 4), .int .i64 (m 5), .int .i64 0, .int .i64 0, .int .i64 0, .int .i64 0, .int .i64 0, .int .i64 0, .int .i64 0, .int .i64 0, .int .i64 0, .int .i64 0, .int .i64 0, .int .i64 0, .int .i64 (m 18), .int .i64 (m 19), .int .i64 (m 20), .int .i64 (m 21)]) := by
  obtain ⟨r', q1, q2, q3⟩ := h.bx rfl
  cases q1
  exact ⟨bSetCells _ _ h.bel q2, fun _ => ⟨r, rfl, q2, gstore (n := fillN m 6) q3⟩, fun _ => rfl⟩
end
/-- What Parse holds on to while the guard is being filled. -/
structure QR (w : World) (gx : Nat) (X : List Int) (G a : Nat) (W : World) : Prop where
  bel : Below w.heap.size w W
  rb : W.heap[w.heap.size]? = some (gObj zN)
  row : ∀ k, k < 23 → W.cell? ⟨gx, k, none⟩ = some (.int .i64 (X.getD k 0))
  gb : W.heap[G]? = some (gObj (fillN (nOfL (X.drop 1)) a))
  hG : w.heap.size < G ∧ gx ≠ G
section
variable {w W w2 : World} {gx G a : Nat} {X : List Int}
theorem QR.step (h : QR w gx X G a W) (hb : Below W.heap.size W w2) : QR w gx X G a w2 := ⟨bStep h.bel hb, blk_step h.rb hb, fun k hk => cell_step (h.row k hk) hb, blk_step h.gb hb, h.hG⟩
theorem QR.next (h : QR w gx X G a W) (ha : a < 18) : QR w gx X G (a + 1) (W.setCell ⟨G, a, none⟩ (.int .i64 (X.getD (a + 1) 0))) := by
  obtain ⟨h1, h2⟩ := h.hG
  refine ⟨h.bel.setCell (p := ⟨G, a, none⟩) (by show w.heap.size ≤ G; omega) _, blk_set_other h.rb (by show w.heap.size ≠ G; omega), fun k hk => cell_set_far (h.row k hk) h2, ?_, h.hG⟩
  have := gset h.gb (show a < 22 by omega) (nOfL (X.drop 1) a)
  rw [fill_next _ ha] at this
  rw [drop_get] at this
  exact this
end
set_option maxHeartbeats 4000000 in
set_option maxRecDepth 20000 in
theorem RParse_any (s : ByteArray) (w : World) (hs : s.size ≤ 10000) (hG : Glob0 w) : Calls Tryz.prog 8 #[.string s] w fun e w' => e = .returned (.tuple #[.agg #[.int .i64 (paN s.data.toList 0), .int .i64 (paN s.data.toList 1), .int .i64 (paN s.data.toList 2), .int .i64 (paN s.data.toList 3), .int .i64 (paN s.data.toList 4), .int .i64 (paN s.data.toList 5), .int .i64 (paN s.data.toList 6), .int .i64 (paN s.data.toList 7), .int .i64 (paN s.data.toList 8), .int .i64 (paN s.data.toList 9), .int .i64 (paN s.data.toList 10), .int .i64 (paN s.data.toList 11), .int .i64 (paN s.data.toList 12), .int .i64 (paN s.data.toList 13), .int .i64 (paN s.data.toList 14), .int .i64 (paN s.data.toList 15), .int .i64 (paN s.data.toList 16), .int .i64 (paN s.data.toList 17), .int .i64 (paN s.data.toList 18), .int .i64 (paN s.data.toList 19), .int .i64 (paN s.data.toList 20), .int .i64 (paN s.data.toList 21)], .int .i64 (paE s.data.toList)]) ∧ Below w.heap.size w w' := by
  have HG := Lib.hid hG
  have HST := Lib.hid (fun (n : Nat → Int) (h1 : chkR n = 0) (h2 : (txS n).1 = s) => txS_str h1 h2)
  obtain ⟨l, hl⟩ : ∃ l, s.data.toList = l := ⟨_, rfl⟩
  have HNM := Lib.hid (fun (h : (scQ l 0 0 []).length ≠ 23) => pa_none (parG_rmany (ok := okG2) (l := l) h))
  have HRD := Lib.hid (fun (X : List Int) (hX : VlsP (scQ l 0 0 []) X) (h23 : X.length = 23) (hn : ¬ (chkR (nOfL (X.drop 1)) = 0 ∧ gTxt (X.drop 1) = l)) => pa_none (parG_rread (ok := okG2) (l := l) okG2_sm hX (fun h => hn ⟨by have := h.1; rw [← drop_gL h23] at this; exact okG2_gL.1 this, h.2⟩)))
  rw [hl]
  simp only [hl] at HST
  have hsz : l.length = s.size := by rw [← hl]; exact (Lib.size_eq s).symm
  have HLS := Lib.hid hl
  have P0 := Lib.hid (RS.start (w := w) (n := zN))
  clear hl hG
  go_enter Tryz.func8, Tryz.ntmps8
  go_wp2_with fail
  go_loopw [4, 5, 6, 7, 8] (fun v fr ix _ _ wr => ∃ (i a : Nat) (P : List (List UInt8)) (X : List Int), a ≤ i ∧ i ≤ s.size + 1 ∧ fr = .int .i64 a ∧ ix = .int .i64 i ∧ Hid (scQ l i a P = scQ l 0 0 []) ∧ Hid (VlsP P X) ∧ Hid (RS w zN v X wr) ∧ X.length ≤ 24) (fun _ _ ix _ _ _ => s.size + 1 - (intOf ix).toNat)
  case atStart => exact ⟨0, 0, [], [], by omega, by omega, rfl, rfl, rfl, VlsP.nil, P0, by simp⟩
  case round =>
    obtain ⟨i, a, P, X, hai, hi, rfl, rfl, HS, HV, P1, hX⟩ := hrel
    clear P0
    have P0 := P1
    clear P1
    obtain ⟨a1, d1, rfl, hA⟩ := P0.out.own.row
    have HA := Lib.hid hA
    have hPX := HV.out.1
    have HPX := Lib.hid hPX
    have i0 : (0 : Int) ≤ (i : Int) := by omega
    have i1 : (0 : Int) ≤ (a : Int) := by omega
    have i2 : (a : Int) ≤ (i : Int) := by omega
    by_cases hc : i ≤ l.length ∧ P.length < 24
    · have c1 : (i : Int) ≤ s.size := by omega
      have c2 : (X.length : Int) < 24 := by omega
      have hst := scQ_step (a := a) hc
      have hse : (s.extract a i).data.toList = seg l a i := by rw [ext_seg, HLS.out]
      have hln : Hid (X.length ≤ 24) := hX
      clear hA hPX
      have hpiece : Hid (scQ l (i + 1) (i + 1) (P ++ [seg l a i]) = scQ l 0 0 [] → ∀ v : Int, (isN (s.extract a i).data.toList = true → v = sv (s.extract a i).data.toList) → scQ l (i + 1) (i + 1) (P ++ [seg l a i]) = scQ l 0 0 [] ∧ VlsP (P ++ [seg l a i]) (X ++ [v])) := fun h v hv => ⟨h, HV.out.snoc (by rw [← hse]; exact hv)⟩
      have CN := Lib.hid (fun W => Number_any (s.extract a i) W)
      by_cases hlt : i < s.size
      · have c4 : (i : Int) < s.size := by omega
        have hg : l.getD i 0 = s[i] := by
          have hil : i < l.length := by omega
          rw [List.getD_eq_getElem?_getD, List.getElem?_eq_getElem hil]
          have := HLS.out
          subst this
          exact Array.getElem_toList _
        rw [hg] at hst
        clear hg
        by_cases h32 : s[i] = 32
        · have d3' : ((s[i].toNat : Int) != 32) = false := by rw [h32]; rfl
          have d4' : ((s[i].toNat : Int) == 32) = true := by rw [h32]; rfl
          rw [if_neg (fun q => q.2 h32)] at hst
          have HS2 := Lib.hid (hpiece.out (hst.symm.trans HS.out))
          clear h32 hc hst hse HS hpiece
          go_wp2_with (first
            | (go_at_call 23; (with_reducible refine (CN.out _).mono ?_); rintro e w2 ⟨⟨v1, rfl, hv1⟩, hb2⟩; replace P0 := Lib.hid (P0.out.step hb2); have HS3 := Lib.hid (HS2.out v1 hv1); clear hv1 HS2)
            | (at_builtin; refine wpList_app_copy _ rfl (.tmp 43) (.tmp 45) rfl _ rfl w.heap.size _ (P0.out.own1 [v1] (by unfold maxLen; simp)) (some ⟨_, 0, none⟩) [v1] 1 rfl (P0.out.src1 [v1] (by unfold maxLen; simp)) (by have := hln.out; simp; omega) (P0.out.sz1 _) ?_; intro v2 w3 ho hg hat; have P1 := Lib.hid (P0.out.app [v1] (by unfold maxLen; simp) ho hg hat); clear ho hg hat))
          go_roundw
          case rel => exact ⟨i + 1, i + 1, _, X ++ [v1], by omega, by omega, by push_cast; rfl, by push_cast; rfl, HS3.out.1, HS3.out.2, P1, by simp; omega⟩
          case measure => (simp [intOf]; omega)
        · have d3' : ((s[i].toNat : Int) != 32) = true := neU h32
          rw [if_pos (show i < l.length ∧ s[i] ≠ 32 from ⟨by omega, h32⟩)] at hst
          have HS2 := Lib.hid (hst.symm.trans HS.out)
          clear h32 hc hst hse HS hpiece CN
          go_wp2_with fail
          go_roundw
          case rel => exact ⟨i + 1, a, P, X, by omega, by omega, rfl, by push_cast; rfl, HS2.out, HV.out, P0.out, hX⟩
          case measure => (simp [intOf]; omega)
      · have c4 : ¬ (i : Int) < s.size := by omega
        rw [if_neg (fun q => by have := q.1; omega)] at hst
        have HS2 := Lib.hid (hpiece.out (hst.symm.trans HS.out))
        clear hc hst hse HS hpiece
        go_wp2_with (first
          | (go_at_call 23; (with_reducible refine (CN.out _).mono ?_); rintro e w2 ⟨⟨v1, rfl, hv1⟩, hb2⟩; replace P0 := Lib.hid (P0.out.step hb2); have HS3 := Lib.hid (HS2.out v1 hv1); clear hv1 HS2)
          | (at_builtin; refine wpList_app_copy _ rfl (.tmp 43) (.tmp 45) rfl _ rfl w.heap.size _ (P0.out.own1 [v1] (by unfold maxLen; simp)) (some ⟨_, 0, none⟩) [v1] 1 rfl (P0.out.src1 [v1] (by unfold maxLen; simp)) (by have := hln.out; simp; omega) (P0.out.sz1 _) ?_; intro v2 w3 ho hg hat; have P1 := Lib.hid (P0.out.app [v1] (by unfold maxLen; simp) ho hg hat); clear ho hg hat))
        go_roundw
        case rel => exact ⟨i + 1, i + 1, _, X ++ [v1], by omega, by omega, by push_cast; rfl, by push_cast; rfl, HS3.out.1, HS3.out.2, P1, by simp; omega⟩
        case measure => (simp [intOf]; omega)
    · have hP : scQ l 0 0 [] = P := by rw [← HS.out]; exact scQ_end hc
      rw [hP] at HNM HRD
      have hex : (s.size : Int) < i ∨ ((i : Int) ≤ s.size ∧ 24 ≤ (X.length : Int)) := by omega
      clear hc hP HS
      by_cases h23 : X.length = 23
      · have hex1 : (s.size : Int) < i := by omega
        replace HRD := Lib.hid (HRD.out X HV.out h23)
        obtain ⟨gx, cx, ex, -, -⟩ := IntOwn.blk P0.out.own (fun h => by rw [h] at h23; simp at h23)
        simp only [Value.slice.injEq] at ex
        obtain ⟨rfl, -, rfl⟩ := ex
        have HR := Lib.hid (show ∀ k, k < 23 → wr.cell? ⟨gx, k, none⟩ = some (.int .i64 (X.getD k 0)) from fun k hk => own_rd P0.out.own (by omega))
        rw [h23]
        obtain ⟨m, hm⟩ : ∃ m, nOfL (X.drop 1) = m := ⟨_, rfl⟩
        have HM := Lib.hid (show ∀ k, k < 22 → wr.cell? ⟨gx, k + 1, none⟩ = some (.int .i64 (m k)) from fun k hk => by rw [← hm, drop_get]; exact HR.out (k + 1) (by omega))
        have gl : gx < wr.heap.size := cell_lt (HR.out 0 (by decide))
        have HMM := Lib.hid hm
        have H23 := Lib.hid h23
        clear hA hPX hm hex HNM HV HPX HA h23 hX
        go_upto_region 12 with fail

        refine region_all 33 24 122 [(31, 9), (32, 123)] [(none, []), (none, []), (none, []), (none, []), (none, []), (none, []), (none, []), (none, []), (none, []), (none, []), (none, []), (none, []), (none, []), (none, []), (none, []), (none, []), (none, []), (none, []), (none, []), (none, []), (none, []), (none, []), (none, []), (none, []), (none, []), (none, []), (none, []), (none, []), (none, []), (none, []), (none, []), (some 0, []), (some 1, [0])] [(53, (.slice (some ⟨gx, 0, none⟩) 23 d1)), (54, (.pointer (some ⟨gx, 1, none⟩))), (55, (.int .i64 (m 0))), (56, (.slice (some ⟨gx, 0, none⟩) 23 d1)), (57, (.pointer (some ⟨gx, 2, none⟩))), (58, (.int .i64 (m 1))), (59, (.slice (some ⟨gx, 0, none⟩) 23 d1)), (60, (.pointer (some ⟨gx, 3, none⟩))), (61, (.int .i64 (m 2))), (62, (.slice (some ⟨gx, 0, none⟩) 23 d1)), (63, (.pointer (some ⟨gx, 4, none⟩))), (64, (.int .i64 (m 3))), (65, (.slice (some ⟨gx, 0, none⟩) 23 d1)), (66, (.pointer (some ⟨gx, 5, none⟩))), (67, (.int .i64 (m 4))), (68, (.slice (some ⟨gx, 0, none⟩) 23 d1)), (69, (.pointer (some ⟨gx, 6, none⟩))), (70, (.int .i64 (m 5))), (71, (.slice (some ⟨gx, 0, none⟩) 23 d1)), (72, (.pointer (some ⟨gx, 19, none⟩))), (73, (.int .i64 (m 18))), (74, (.slice (some ⟨gx, 0, none⟩) 23 d1)), (75, (.pointer (some ⟨gx, 20, none⟩))), (76, (.int .i64 (m 19))), (77, (.slice (some ⟨gx, 0, none⟩) 23 d1)), (78, (.pointer (some ⟨gx, 21, none⟩))), (79, (.int .i64 (m 20))), (80, (.slice (some ⟨gx, 0, none⟩) 23 d1)), (81, (.pointer (some ⟨gx, 22, none⟩))), (82, (.int .i64 (m 21))), (83, (.agg #[.int .i64 (m 0), .int .i64 (m 1), .int .i64 (m 2), .int .i64 (m 3), .int .i64 (m 4), .int .i64 (m 5), .int .i64 0, .int .i64 0, .int .i64 0, .int .i64 0, .int .i64 0, .int .i64 0, .int .i64 0, .int .i64 0, .int .i64 0, .int .i64 0, .int .i64 0, .int .i64 0, .int .i64 (m 18), .int .i64 (m 19), .int .i64 (m 20), .int .i64 (m 21)]))] (fun bsE vsE W => BG wr m (bsE.getD 0 false) (bsE.getD 1 false) (vsE.getD 0 undef) W) (by kernel_rfl) (by kernel_rfl) rfl rfl (by kernel_rfl) (by rfl) ?h0 ?each ?done
        case h0 =>
          intro vsE hlv
          obtain ⟨v0, vsE0, rfl, hlv0⟩ := len_one hlv
          obtain ⟨v1, vsE1, rfl, hlv1⟩ := len_one hlv0
          obtain rfl := len_nil hlv1
          exact BG.start (Below.refl _ _).drew
        case each =>
          simp only [AllE]
          refine ⟨?_, ?_, ?_, ?_, ?_, ?_, ?_, ?_, ?_, ?_, ?_, ?_, ?_, ?_, ?_, ?_, ?_, ?_, ?_, ?_, ?_, ?_, ?_, ?_, ?_, ?_, ?_, ?_, ?_, ?_, ?_, ?_, ?_, trivial⟩
          · refine ⟨53, (.slice (some ⟨gx, 0, none⟩) 23 d1), rfl, by kernel_rfl, ?_⟩
            intro bsE vsE W hlb hlv hnd h
            obtain ⟨b0, bsE0, rfl, hlb0⟩ := len_one hlb
            obtain ⟨v0, vsE0, rfl, hlv0⟩ := len_one hlv
            obtain ⟨b1, bsE1, rfl, hlb1⟩ := len_one hlb0
            obtain ⟨v1, vsE1, rfl, hlv1⟩ := len_one hlv0
            obtain rfl := len_nil hlb1
            obtain rfl := len_nil hlv1
            replace h : BG wr m b0 b1 v0 W := h
            clear hnd
            have HST := Lib.hid h
            intro K Q hK
            simp only [putE, updAll, Act.put, List.setIfInBounds_toArray, List.set_cons_zero, List.set_cons_succ, List.set_nil] at hK ⊢
            go_wp2_with (fail)
            all_goals (first | exact hK _ (by first | exact h | exact h.step (by first | assumption | (repeat' (first | exact Below.refl _ _ | apply bDrewN | apply bDrew)))) | exact (by first | exact h | exact h.step (by first | assumption | (repeat' (first | exact Below.refl _ _ | apply bDrewN | apply bDrew)))))
          · refine ⟨54, (.pointer (some ⟨gx, 1, none⟩)), rfl, by kernel_rfl, ?_⟩
            intro bsE vsE W hlb hlv hnd h
            obtain ⟨b0, bsE0, rfl, hlb0⟩ := len_one hlb
            obtain ⟨v0, vsE0, rfl, hlv0⟩ := len_one hlv
            obtain ⟨b1, bsE1, rfl, hlb1⟩ := len_one hlb0
            obtain ⟨v1, vsE1, rfl, hlv1⟩ := len_one hlv0
            obtain rfl := len_nil hlb1
            obtain rfl := len_nil hlv1
            replace h : BG wr m b0 b1 v0 W := h
            clear hnd
            have HST := Lib.hid h
            intro K Q hK
            simp only [putE, updAll, Act.put, List.setIfInBounds_toArray, List.set_cons_zero, List.set_cons_succ, List.set_nil] at hK ⊢
            go_wp2_with (fail)
            all_goals (first | exact hK _ (by first | exact h | exact h.step (by first | assumption | (repeat' (first | exact Below.refl _ _ | apply bDrewN | apply bDrew)))) | exact (by first | exact h | exact h.step (by first | assumption | (repeat' (first | exact Below.refl _ _ | apply bDrewN | apply bDrew)))))
          · refine ⟨55, (.int .i64 (m 0)), rfl, by kernel_rfl, ?_⟩
            intro bsE vsE W hlb hlv hnd h
            obtain ⟨b0, bsE0, rfl, hlb0⟩ := len_one hlb
            obtain ⟨v0, vsE0, rfl, hlv0⟩ := len_one hlv
            obtain ⟨b1, bsE1, rfl, hlb1⟩ := len_one hlb0
            obtain ⟨v1, vsE1, rfl, hlv1⟩ := len_one hlv0
            obtain rfl := len_nil hlb1
            obtain rfl := len_nil hlv1
            replace h : BG wr m b0 b1 v0 W := h
            clear hnd
            have HST := Lib.hid h
            have g0 := (h.bel.cell (p := ⟨gx, 1, none⟩) gl).trans (HM.out 0 (by decide))
            intro K Q hK
            simp only [putE, updAll, Act.put, List.setIfInBounds_toArray, List.set_cons_zero, List.set_cons_succ, List.set_nil] at hK ⊢
            go_wp2_with (fail)
            all_goals (first | exact hK _ (by first | exact h | exact h.step (by first | assumption | (repeat' (first | exact Below.refl _ _ | apply bDrewN | apply bDrew)))) | exact (by first | exact h | exact h.step (by first | assumption | (repeat' (first | exact Below.refl _ _ | apply bDrewN | apply bDrew)))))
          · refine ⟨56, (.slice (some ⟨gx, 0, none⟩) 23 d1), rfl, by kernel_rfl, ?_⟩
            intro bsE vsE W hlb hlv hnd h
            obtain ⟨b0, bsE0, rfl, hlb0⟩ := len_one hlb
            obtain ⟨v0, vsE0, rfl, hlv0⟩ := len_one hlv
            obtain ⟨b1, bsE1, rfl, hlb1⟩ := len_one hlb0
            obtain ⟨v1, vsE1, rfl, hlv1⟩ := len_one hlv0
            obtain rfl := len_nil hlb1
            obtain rfl := len_nil hlv1
            replace h : BG wr m b0 b1 v0 W := h
            clear hnd
            have HST := Lib.hid h
            intro K Q hK
            simp only [putE, updAll, Act.put, List.setIfInBounds_toArray, List.set_cons_zero, List.set_cons_succ, List.set_nil] at hK ⊢
            go_wp2_with (fail)
            all_goals (first | exact hK _ (by first | exact h | exact h.step (by first | assumption | (repeat' (first | exact Below.refl _ _ | apply bDrewN | apply bDrew)))) | exact (by first | exact h | exact h.step (by first | assumption | (repeat' (first | exact Below.refl _ _ | apply bDrewN | apply bDrew)))))
          · refine ⟨57, (.pointer (some ⟨gx, 2, none⟩)), rfl, by kernel_rfl, ?_⟩
            intro bsE vsE W hlb hlv hnd h
            obtain ⟨b0, bsE0, rfl, hlb0⟩ := len_one hlb
            obtain ⟨v0, vsE0, rfl, hlv0⟩ := len_one hlv
            obtain ⟨b1, bsE1, rfl, hlb1⟩ := len_one hlb0
            obtain ⟨v1, vsE1, rfl, hlv1⟩ := len_one hlv0
            obtain rfl := len_nil hlb1
            obtain rfl := len_nil hlv1
            replace h : BG wr m b0 b1 v0 W := h
            clear hnd
            have HST := Lib.hid h
            intro K Q hK
            simp only [putE, updAll, Act.put, List.setIfInBounds_toArray, List.set_cons_zero, List.set_cons_succ, List.set_nil] at hK ⊢
            go_wp2_with (fail)
            all_goals (first | exact hK _ (by first | exact h | exact h.step (by first | assumption | (repeat' (first | exact Below.refl _ _ | apply bDrewN | apply bDrew)))) | exact (by first | exact h | exact h.step (by first | assumption | (repeat' (first | exact Below.refl _ _ | apply bDrewN | apply bDrew)))))
          · refine ⟨58, (.int .i64 (m 1)), rfl, by kernel_rfl, ?_⟩
            intro bsE vsE W hlb hlv hnd h
            obtain ⟨b0, bsE0, rfl, hlb0⟩ := len_one hlb
            obtain ⟨v0, vsE0, rfl, hlv0⟩ := len_one hlv
            obtain ⟨b1, bsE1, rfl, hlb1⟩ := len_one hlb0
            obtain ⟨v1, vsE1, rfl, hlv1⟩ := len_one hlv0
            obtain rfl := len_nil hlb1
            obtain rfl := len_nil hlv1
            replace h : BG wr m b0 b1 v0 W := h
            clear hnd
            have HST := Lib.hid h
            have g0 := (h.bel.cell (p := ⟨gx, 2, none⟩) gl).trans (HM.out 1 (by decide))
            intro K Q hK
            simp only [putE, updAll, Act.put, List.setIfInBounds_toArray, List.set_cons_zero, List.set_cons_succ, List.set_nil] at hK ⊢
            go_wp2_with (fail)
            all_goals (first | exact hK _ (by first | exact h | exact h.step (by first | assumption | (repeat' (first | exact Below.refl _ _ | apply bDrewN | apply bDrew)))) | exact (by first | exact h | exact h.step (by first | assumption | (repeat' (first | exact Below.refl _ _ | apply bDrewN | apply bDrew)))))
          · refine ⟨59, (.slice (some ⟨gx, 0, none⟩) 23 d1), rfl, by kernel_rfl, ?_⟩
            intro bsE vsE W hlb hlv hnd h
            obtain ⟨b0, bsE0, rfl, hlb0⟩ := len_one hlb
            obtain ⟨v0, vsE0, rfl, hlv0⟩ := len_one hlv
            obtain ⟨b1, bsE1, rfl, hlb1⟩ := len_one hlb0
            obtain ⟨v1, vsE1, rfl, hlv1⟩ := len_one hlv0
            obtain rfl := len_nil hlb1
            obtain rfl := len_nil hlv1
            replace h : BG wr m b0 b1 v0 W := h
            clear hnd
            have HST := Lib.hid h
            intro K Q hK
            simp only [putE, updAll, Act.put, List.setIfInBounds_toArray, List.set_cons_zero, List.set_cons_succ, List.set_nil] at hK ⊢
            go_wp2_with (fail)
            all_goals (first | exact hK _ (by first | exact h | exact h.step (by first | assumption | (repeat' (first | exact Below.refl _ _ | apply bDrewN | apply bDrew)))) | exact (by first | exact h | exact h.step (by first | assumption | (repeat' (first | exact Below.refl _ _ | apply bDrewN | apply bDrew)))))
          · refine ⟨60, (.pointer (some ⟨gx, 3, none⟩)), rfl, by kernel_rfl, ?_⟩
            intro bsE vsE W hlb hlv hnd h
            obtain ⟨b0, bsE0, rfl, hlb0⟩ := len_one hlb
            obtain ⟨v0, vsE0, rfl, hlv0⟩ := len_one hlv
            obtain ⟨b1, bsE1, rfl, hlb1⟩ := len_one hlb0
            obtain ⟨v1, vsE1, rfl, hlv1⟩ := len_one hlv0
            obtain rfl := len_nil hlb1
            obtain rfl := len_nil hlv1
            replace h : BG wr m b0 b1 v0 W := h
            clear hnd
            have HST := Lib.hid h
            intro K Q hK
            simp only [putE, updAll, Act.put, List.setIfInBounds_toArray, List.set_cons_zero, List.set_cons_succ, List.set_nil] at hK ⊢
            go_wp2_with (fail)
            all_goals (first | exact hK _ (by first | exact h | exact h.step (by first | assumption | (repeat' (first | exact Below.refl _ _ | apply bDrewN | apply bDrew)))) | exact (by first | exact h | exact h.step (by first | assumption | (repeat' (first | exact Below.refl _ _ | apply bDrewN | apply bDrew)))))
          · refine ⟨61, (.int .i64 (m 2)), rfl, by kernel_rfl, ?_⟩
            intro bsE vsE W hlb hlv hnd h
            obtain ⟨b0, bsE0, rfl, hlb0⟩ := len_one hlb
            obtain ⟨v0, vsE0, rfl, hlv0⟩ := len_one hlv
            obtain ⟨b1, bsE1, rfl, hlb1⟩ := len_one hlb0
            obtain ⟨v1, vsE1, rfl, hlv1⟩ := len_one hlv0
            obtain rfl := len_nil hlb1
            obtain rfl := len_nil hlv1
            replace h : BG wr m b0 b1 v0 W := h
            clear hnd
            have HST := Lib.hid h
            have g0 := (h.bel.cell (p := ⟨gx, 3, none⟩) gl).trans (HM.out 2 (by decide))
            intro K Q hK
            simp only [putE, updAll, Act.put, List.setIfInBounds_toArray, List.set_cons_zero, List.set_cons_succ, List.set_nil] at hK ⊢
            go_wp2_with (fail)
            all_goals (first | exact hK _ (by first | exact h | exact h.step (by first | assumption | (repeat' (first | exact Below.refl _ _ | apply bDrewN | apply bDrew)))) | exact (by first | exact h | exact h.step (by first | assumption | (repeat' (first | exact Below.refl _ _ | apply bDrewN | apply bDrew)))))
          · refine ⟨62, (.slice (some ⟨gx, 0, none⟩) 23 d1), rfl, by kernel_rfl, ?_⟩
            intro bsE vsE W hlb hlv hnd h
            obtain ⟨b0, bsE0, rfl, hlb0⟩ := len_one hlb
            obtain ⟨v0, vsE0, rfl, hlv0⟩ := len_one hlv
            obtain ⟨b1, bsE1, rfl, hlb1⟩ := len_one hlb0
            obtain ⟨v1, vsE1, rfl, hlv1⟩ := len_one hlv0
            obtain rfl := len_nil hlb1
            obtain rfl := len_nil hlv1
            replace h : BG wr m b0 b1 v0 W := h
            clear hnd
            have HST := Lib.hid h
            intro K Q hK
            simp only [putE, updAll, Act.put, List.setIfInBounds_toArray, List.set_cons_zero, List.set_cons_succ, List.set_nil] at hK ⊢
            go_wp2_with (fail)
            all_goals (first | exact hK _ (by first | exact h | exact h.step (by first | assumption | (repeat' (first | exact Below.refl _ _ | apply bDrewN | apply bDrew)))) | exact (by first | exact h | exact h.step (by first | assumption | (repeat' (first | exact Below.refl _ _ | apply bDrewN | apply bDrew)))))
          · refine ⟨63, (.pointer (some ⟨gx, 4, none⟩)), rfl, by kernel_rfl, ?_⟩
            intro bsE vsE W hlb hlv hnd h
            obtain ⟨b0, bsE0, rfl, hlb0⟩ := len_one hlb
            obtain ⟨v0, vsE0, rfl, hlv0⟩ := len_one hlv
            obtain ⟨b1, bsE1, rfl, hlb1⟩ := len_one hlb0
            obtain ⟨v1, vsE1, rfl, hlv1⟩ := len_one hlv0
            obtain rfl := len_nil hlb1
            obtain rfl := len_nil hlv1
            replace h : BG wr m b0 b1 v0 W := h
            clear hnd
            have HST := Lib.hid h
            intro K Q hK
            simp only [putE, updAll, Act.put, List.setIfInBounds_toArray, List.set_cons_zero, List.set_cons_succ, List.set_nil] at hK ⊢
            go_wp2_with (fail)
            all_goals (first | exact hK _ (by first | exact h | exact h.step (by first | assumption | (repeat' (first | exact Below.refl _ _ | apply bDrewN | apply bDrew)))) | exact (by first | exact h | exact h.step (by first | assumption | (repeat' (first | exact Below.refl _ _ | apply bDrewN | apply bDrew)))))
          · refine ⟨64, (.int .i64 (m 3)), rfl, by kernel_rfl, ?_⟩
            intro bsE vsE W hlb hlv hnd h
            obtain ⟨b0, bsE0, rfl, hlb0⟩ := len_one hlb
            obtain ⟨v0, vsE0, rfl, hlv0⟩ := len_one hlv
            obtain ⟨b1, bsE1, rfl, hlb1⟩ := len_one hlb0
            obtain ⟨v1, vsE1, rfl, hlv1⟩ := len_one hlv0
            obtain rfl := len_nil hlb1
            obtain rfl := len_nil hlv1
            replace h : BG wr m b0 b1 v0 W := h
            clear hnd
            have HST := Lib.hid h
            have g0 := (h.bel.cell (p := ⟨gx, 4, none⟩) gl).trans (HM.out 3 (by decide))
            intro K Q hK
            simp only [putE, updAll, Act.put, List.setIfInBounds_toArray, List.set_cons_zero, List.set_cons_succ, List.set_nil] at hK ⊢
            go_wp2_with (fail)
            all_goals (first | exact hK _ (by first | exact h | exact h.step (by first | assumption | (repeat' (first | exact Below.refl _ _ | apply bDrewN | apply bDrew)))) | exact (by first | exact h | exact h.step (by first | assumption | (repeat' (first | exact Below.refl _ _ | apply bDrewN | apply bDrew)))))
          · refine ⟨65, (.slice (some ⟨gx, 0, none⟩) 23 d1), rfl, by kernel_rfl, ?_⟩
            intro bsE vsE W hlb hlv hnd h
            obtain ⟨b0, bsE0, rfl, hlb0⟩ := len_one hlb
            obtain ⟨v0, vsE0, rfl, hlv0⟩ := len_one hlv
            obtain ⟨b1, bsE1, rfl, hlb1⟩ := len_one hlb0
            obtain ⟨v1, vsE1, rfl, hlv1⟩ := len_one hlv0
            obtain rfl := len_nil hlb1
            obtain rfl := len_nil hlv1
            replace h : BG wr m b0 b1 v0 W := h
            clear hnd
            have HST := Lib.hid h
            intro K Q hK
            simp only [putE, updAll, Act.put, List.setIfInBounds_toArray, List.set_cons_zero, List.set_cons_succ, List.set_nil] at hK ⊢
            go_wp2_with (fail)
            all_goals (first | exact hK _ (by first | exact h | exact h.step (by first | assumption | (repeat' (first | exact Below.refl _ _ | apply bDrewN | apply bDrew)))) | exact (by first | exact h | exact h.step (by first | assumption | (repeat' (first | exact Below.refl _ _ | apply bDrewN | apply bDrew)))))
          · refine ⟨66, (.pointer (some ⟨gx, 5, none⟩)), rfl, by kernel_rfl, ?_⟩
            intro bsE vsE W hlb hlv hnd h
            obtain ⟨b0, bsE0, rfl, hlb0⟩ := len_one hlb
            obtain ⟨v0, vsE0, rfl, hlv0⟩ := len_one hlv
            obtain ⟨b1, bsE1, rfl, hlb1⟩ := len_one hlb0
            obtain ⟨v1, vsE1, rfl, hlv1⟩ := len_one hlv0
            obtain rfl := len_nil hlb1
            obtain rfl := len_nil hlv1
            replace h : BG wr m b0 b1 v0 W := h
            clear hnd
            have HST := Lib.hid h
            intro K Q hK
            simp only [putE, updAll, Act.put, List.setIfInBounds_toArray, List.set_cons_zero, List.set_cons_succ, List.set_nil] at hK ⊢
            go_wp2_with (fail)
            all_goals (first | exact hK _ (by first | exact h | exact h.step (by first | assumption | (repeat' (first | exact Below.refl _ _ | apply bDrewN | apply bDrew)))) | exact (by first | exact h | exact h.step (by first | assumption | (repeat' (first | exact Below.refl _ _ | apply bDrewN | apply bDrew)))))
          · refine ⟨67, (.int .i64 (m 4)), rfl, by kernel_rfl, ?_⟩
            intro bsE vsE W hlb hlv hnd h
            obtain ⟨b0, bsE0, rfl, hlb0⟩ := len_one hlb
            obtain ⟨v0, vsE0, rfl, hlv0⟩ := len_one hlv
            obtain ⟨b1, bsE1, rfl, hlb1⟩ := len_one hlb0
            obtain ⟨v1, vsE1, rfl, hlv1⟩ := len_one hlv0
            obtain rfl := len_nil hlb1
            obtain rfl := len_nil hlv1
            replace h : BG wr m b0 b1 v0 W := h
            clear hnd
            have HST := Lib.hid h
            have g0 := (h.bel.cell (p := ⟨gx, 5, none⟩) gl).trans (HM.out 4 (by decide))
            intro K Q hK
            simp only [putE, updAll, Act.put, List.setIfInBounds_toArray, List.set_cons_zero, List.set_cons_succ, List.set_nil] at hK ⊢
            go_wp2_with (fail)
            all_goals (first | exact hK _ (by first | exact h | exact h.step (by first | assumption | (repeat' (first | exact Below.refl _ _ | apply bDrewN | apply bDrew)))) | exact (by first | exact h | exact h.step (by first | assumption | (repeat' (first | exact Below.refl _ _ | apply bDrewN | apply bDrew)))))
          · refine ⟨68, (.slice (some ⟨gx, 0, none⟩) 23 d1), rfl, by kernel_rfl, ?_⟩
            intro bsE vsE W hlb hlv hnd h
            obtain ⟨b0, bsE0, rfl, hlb0⟩ := len_one hlb
            obtain ⟨v0, vsE0, rfl, hlv0⟩ := len_one hlv
            obtain ⟨b1, bsE1, rfl, hlb1⟩ := len_one hlb0
            obtain ⟨v1, vsE1, rfl, hlv1⟩ := len_one hlv0
            obtain rfl := len_nil hlb1
            obtain rfl := len_nil hlv1
            replace h : BG wr m b0 b1 v0 W := h
            clear hnd
            have HST := Lib.hid h
            intro K Q hK
            simp only [putE, updAll, Act.put, List.setIfInBounds_toArray, List.set_cons_zero, List.set_cons_succ, List.set_nil] at hK ⊢
            go_wp2_with (fail)
            all_goals (first | exact hK _ (by first | exact h | exact h.step (by first | assumption | (repeat' (first | exact Below.refl _ _ | apply bDrewN | apply bDrew)))) | exact (by first | exact h | exact h.step (by first | assumption | (repeat' (first | exact Below.refl _ _ | apply bDrewN | apply bDrew)))))
          · refine ⟨69, (.pointer (some ⟨gx, 6, none⟩)), rfl, by kernel_rfl, ?_⟩
            intro bsE vsE W hlb hlv hnd h
            obtain ⟨b0, bsE0, rfl, hlb0⟩ := len_one hlb
            obtain ⟨v0, vsE0, rfl, hlv0⟩ := len_one hlv
            obtain ⟨b1, bsE1, rfl, hlb1⟩ := len_one hlb0
            obtain ⟨v1, vsE1, rfl, hlv1⟩ := len_one hlv0
            obtain rfl := len_nil hlb1
            obtain rfl := len_nil hlv1
            replace h : BG wr m b0 b1 v0 W := h
            clear hnd
            have HST := Lib.hid h
            intro K Q hK
            simp only [putE, updAll, Act.put, List.setIfInBounds_toArray, List.set_cons_zero, List.set_cons_succ, List.set_nil] at hK ⊢
            go_wp2_with (fail)
            all_goals (first | exact hK _ (by first | exact h | exact h.step (by first | assumption | (repeat' (first | exact Below.refl _ _ | apply bDrewN | apply bDrew)))) | exact (by first | exact h | exact h.step (by first | assumption | (repeat' (first | exact Below.refl _ _ | apply bDrewN | apply bDrew)))))
          · refine ⟨70, (.int .i64 (m 5)), rfl, by kernel_rfl, ?_⟩
            intro bsE vsE W hlb hlv hnd h
            obtain ⟨b0, bsE0, rfl, hlb0⟩ := len_one hlb
            obtain ⟨v0, vsE0, rfl, hlv0⟩ := len_one hlv
            obtain ⟨b1, bsE1, rfl, hlb1⟩ := len_one hlb0
            obtain ⟨v1, vsE1, rfl, hlv1⟩ := len_one hlv0
            obtain rfl := len_nil hlb1
            obtain rfl := len_nil hlv1
            replace h : BG wr m b0 b1 v0 W := h
            clear hnd
            have HST := Lib.hid h
            have g0 := (h.bel.cell (p := ⟨gx, 6, none⟩) gl).trans (HM.out 5 (by decide))
            intro K Q hK
            simp only [putE, updAll, Act.put, List.setIfInBounds_toArray, List.set_cons_zero, List.set_cons_succ, List.set_nil] at hK ⊢
            go_wp2_with (fail)
            all_goals (first | exact hK _ (by first | exact h | exact h.step (by first | assumption | (repeat' (first | exact Below.refl _ _ | apply bDrewN | apply bDrew)))) | exact (by first | exact h | exact h.step (by first | assumption | (repeat' (first | exact Below.refl _ _ | apply bDrewN | apply bDrew)))))
          · refine ⟨71, (.slice (some ⟨gx, 0, none⟩) 23 d1), rfl, by kernel_rfl, ?_⟩
            intro bsE vsE W hlb hlv hnd h
            obtain ⟨b0, bsE0, rfl, hlb0⟩ := len_one hlb
            obtain ⟨v0, vsE0, rfl, hlv0⟩ := len_one hlv
            obtain ⟨b1, bsE1, rfl, hlb1⟩ := len_one hlb0
            obtain ⟨v1, vsE1, rfl, hlv1⟩ := len_one hlv0
            obtain rfl := len_nil hlb1
            obtain rfl := len_nil hlv1
            replace h : BG wr m b0 b1 v0 W := h
            clear hnd
            have HST := Lib.hid h
            intro K Q hK
            simp only [putE, updAll, Act.put, List.setIfInBounds_toArray, List.set_cons_zero, List.set_cons_succ, List.set_nil] at hK ⊢
            go_wp2_with (fail)
            all_goals (first | exact hK _ (by first | exact h | exact h.step (by first | assumption | (repeat' (first | exact Below.refl _ _ | apply bDrewN | apply bDrew)))) | exact (by first | exact h | exact h.step (by first | assumption | (repeat' (first | exact Below.refl _ _ | apply bDrewN | apply bDrew)))))
          · refine ⟨72, (.pointer (some ⟨gx, 19, none⟩)), rfl, by kernel_rfl, ?_⟩
            intro bsE vsE W hlb hlv hnd h
            obtain ⟨b0, bsE0, rfl, hlb0⟩ := len_one hlb
            obtain ⟨v0, vsE0, rfl, hlv0⟩ := len_one hlv
            obtain ⟨b1, bsE1, rfl, hlb1⟩ := len_one hlb0
            obtain ⟨v1, vsE1, rfl, hlv1⟩ := len_one hlv0
            obtain rfl := len_nil hlb1
            obtain rfl := len_nil hlv1
            replace h : BG wr m b0 b1 v0 W := h
            clear hnd
            have HST := Lib.hid h
            intro K Q hK
            simp only [putE, updAll, Act.put, List.setIfInBounds_toArray, List.set_cons_zero, List.set_cons_succ, List.set_nil] at hK ⊢
            go_wp2_with (fail)
            all_goals (first | exact hK _ (by first | exact h | exact h.step (by first | assumption | (repeat' (first | exact Below.refl _ _ | apply bDrewN | apply bDrew)))) | exact (by first | exact h | exact h.step (by first | assumption | (repeat' (first | exact Below.refl _ _ | apply bDrewN | apply bDrew)))))
          · refine ⟨73, (.int .i64 (m 18)), rfl, by kernel_rfl, ?_⟩
            intro bsE vsE W hlb hlv hnd h
            obtain ⟨b0, bsE0, rfl, hlb0⟩ := len_one hlb
            obtain ⟨v0, vsE0, rfl, hlv0⟩ := len_one hlv
            obtain ⟨b1, bsE1, rfl, hlb1⟩ := len_one hlb0
            obtain ⟨v1, vsE1, rfl, hlv1⟩ := len_one hlv0
            obtain rfl := len_nil hlb1
            obtain rfl := len_nil hlv1
            replace h : BG wr m b0 b1 v0 W := h
            clear hnd
            have HST := Lib.hid h
            have g0 := (h.bel.cell (p := ⟨gx, 19, none⟩) gl).trans (HM.out 18 (by decide))
            intro K Q hK
            simp only [putE, updAll, Act.put, List.setIfInBounds_toArray, List.set_cons_zero, List.set_cons_succ, List.set_nil] at hK ⊢
            go_wp2_with (fail)
            all_goals (first | exact hK _ (by first | exact h | exact h.step (by first | assumption | (repeat' (first | exact Below.refl _ _ | apply bDrewN | apply bDrew)))) | exact (by first | exact h | exact h.step (by first | assumption | (repeat' (first | exact Below.refl _ _ | apply bDrewN | apply bDrew)))))
          · refine ⟨74, (.slice (some ⟨gx, 0, none⟩) 23 d1), rfl, by kernel_rfl, ?_⟩
            intro bsE vsE W hlb hlv hnd h
            obtain ⟨b0, bsE0, rfl, hlb0⟩ := len_one hlb
            obtain ⟨v0, vsE0, rfl, hlv0⟩ := len_one hlv
            obtain ⟨b1, bsE1, rfl, hlb1⟩ := len_one hlb0
            obtain ⟨v1, vsE1, rfl, hlv1⟩ := len_one hlv0
            obtain rfl := len_nil hlb1
            obtain rfl := len_nil hlv1
            replace h : BG wr m b0 b1 v0 W := h
            clear hnd
            have HST := Lib.hid h
            intro K Q hK
            simp only [putE, updAll, Act.put, List.setIfInBounds_toArray, List.set_cons_zero, List.set_cons_succ, List.set_nil] at hK ⊢
            go_wp2_with (fail)
            all_goals (first | exact hK _ (by first | exact h | exact h.step (by first | assumption | (repeat' (first | exact Below.refl _ _ | apply bDrewN | apply bDrew)))) | exact (by first | exact h | exact h.step (by first | assumption | (repeat' (first | exact Below.refl _ _ | apply bDrewN | apply bDrew)))))
          · refine ⟨75, (.pointer (some ⟨gx, 20, none⟩)), rfl, by kernel_rfl, ?_⟩
            intro bsE vsE W hlb hlv hnd h
            obtain ⟨b0, bsE0, rfl, hlb0⟩ := len_one hlb
            obtain ⟨v0, vsE0, rfl, hlv0⟩ := len_one hlv
            obtain ⟨b1, bsE1, rfl, hlb1⟩ := len_one hlb0
            obtain ⟨v1, vsE1, rfl, hlv1⟩ := len_one hlv0
            obtain rfl := len_nil hlb1
            obtain rfl := len_nil hlv1
            replace h : BG wr m b0 b1 v0 W := h
            clear hnd
            have HST := Lib.hid h
            intro K Q hK
            simp only [putE, updAll, Act.put, List.setIfInBounds_toArray, List.set_cons_zero, List.set_cons_succ, List.set_nil] at hK ⊢
            go_wp2_with (fail)
            all_goals (first | exact hK _ (by first | exact h | exact h.step (by first | assumption | (repeat' (first | exact Below.refl _ _ | apply bDrewN | apply bDrew)))) | exact (by first | exact h | exact h.step (by first | assumption | (repeat' (first | exact Below.refl _ _ | apply bDrewN | apply bDrew)))))
          · refine ⟨76, (.int .i64 (m 19)), rfl, by kernel_rfl, ?_⟩
            intro bsE vsE W hlb hlv hnd h
            obtain ⟨b0, bsE0, rfl, hlb0⟩ := len_one hlb
            obtain ⟨v0, vsE0, rfl, hlv0⟩ := len_one hlv
            obtain ⟨b1, bsE1, rfl, hlb1⟩ := len_one hlb0
            obtain ⟨v1, vsE1, rfl, hlv1⟩ := len_one hlv0
            obtain rfl := len_nil hlb1
            obtain rfl := len_nil hlv1
            replace h : BG wr m b0 b1 v0 W := h
            clear hnd
            have HST := Lib.hid h
            have g0 := (h.bel.cell (p := ⟨gx, 20, none⟩) gl).trans (HM.out 19 (by decide))
            intro K Q hK
            simp only [putE, updAll, Act.put, List.setIfInBounds_toArray, List.set_cons_zero, List.set_cons_succ, List.set_nil] at hK ⊢
            go_wp2_with (fail)
            all_goals (first | exact hK _ (by first | exact h | exact h.step (by first | assumption | (repeat' (first | exact Below.refl _ _ | apply bDrewN | apply bDrew)))) | exact (by first | exact h | exact h.step (by first | assumption | (repeat' (first | exact Below.refl _ _ | apply bDrewN | apply bDrew)))))
          · refine ⟨77, (.slice (some ⟨gx, 0, none⟩) 23 d1), rfl, by kernel_rfl, ?_⟩
            intro bsE vsE W hlb hlv hnd h
            obtain ⟨b0, bsE0, rfl, hlb0⟩ := len_one hlb
            obtain ⟨v0, vsE0, rfl, hlv0⟩ := len_one hlv
            obtain ⟨b1, bsE1, rfl, hlb1⟩ := len_one hlb0
            obtain ⟨v1, vsE1, rfl, hlv1⟩ := len_one hlv0
            obtain rfl := len_nil hlb1
            obtain rfl := len_nil hlv1
            replace h : BG wr m b0 b1 v0 W := h
            clear hnd
            have HST := Lib.hid h
            intro K Q hK
            simp only [putE, updAll, Act.put, List.setIfInBounds_toArray, List.set_cons_zero, List.set_cons_succ, List.set_nil] at hK ⊢
            go_wp2_with (fail)
            all_goals (first | exact hK _ (by first | exact h | exact h.step (by first | assumption | (repeat' (first | exact Below.refl _ _ | apply bDrewN | apply bDrew)))) | exact (by first | exact h | exact h.step (by first | assumption | (repeat' (first | exact Below.refl _ _ | apply bDrewN | apply bDrew)))))
          · refine ⟨78, (.pointer (some ⟨gx, 21, none⟩)), rfl, by kernel_rfl, ?_⟩
            intro bsE vsE W hlb hlv hnd h
            obtain ⟨b0, bsE0, rfl, hlb0⟩ := len_one hlb
            obtain ⟨v0, vsE0, rfl, hlv0⟩ := len_one hlv
            obtain ⟨b1, bsE1, rfl, hlb1⟩ := len_one hlb0
            obtain ⟨v1, vsE1, rfl, hlv1⟩ := len_one hlv0
            obtain rfl := len_nil hlb1
            obtain rfl := len_nil hlv1
            replace h : BG wr m b0 b1 v0 W := h
            clear hnd
            have HST := Lib.hid h
            intro K Q hK
            simp only [putE, updAll, Act.put, List.setIfInBounds_toArray, List.set_cons_zero, List.set_cons_succ, List.set_nil] at hK ⊢
            go_wp2_with (fail)
            all_goals (first | exact hK _ (by first | exact h | exact h.step (by first | assumption | (repeat' (first | exact Below.refl _ _ | apply bDrewN | apply bDrew)))) | exact (by first | exact h | exact h.step (by first | assumption | (repeat' (first | exact Below.refl _ _ | apply bDrewN | apply bDrew)))))
          · refine ⟨79, (.int .i64 (m 20)), rfl, by kernel_rfl, ?_⟩
            intro bsE vsE W hlb hlv hnd h
            obtain ⟨b0, bsE0, rfl, hlb0⟩ := len_one hlb
            obtain ⟨v0, vsE0, rfl, hlv0⟩ := len_one hlv
            obtain ⟨b1, bsE1, rfl, hlb1⟩ := len_one hlb0
            obtain ⟨v1, vsE1, rfl, hlv1⟩ := len_one hlv0
            obtain rfl := len_nil hlb1
            obtain rfl := len_nil hlv1
            replace h : BG wr m b0 b1 v0 W := h
            clear hnd
            have HST := Lib.hid h
            have g0 := (h.bel.cell (p := ⟨gx, 21, none⟩) gl).trans (HM.out 20 (by decide))
            intro K Q hK
            simp only [putE, updAll, Act.put, List.setIfInBounds_toArray, List.set_cons_zero, List.set_cons_succ, List.set_nil] at hK ⊢
            go_wp2_with (fail)
            all_goals (first | exact hK _ (by first | exact h | exact h.step (by first | assumption | (repeat' (first | exact Below.refl _ _ | apply bDrewN | apply bDrew)))) | exact (by first | exact h | exact h.step (by first | assumption | (repeat' (first | exact Below.refl _ _ | apply bDrewN | apply bDrew)))))
          · refine ⟨80, (.slice (some ⟨gx, 0, none⟩) 23 d1), rfl, by kernel_rfl, ?_⟩
            intro bsE vsE W hlb hlv hnd h
            obtain ⟨b0, bsE0, rfl, hlb0⟩ := len_one hlb
            obtain ⟨v0, vsE0, rfl, hlv0⟩ := len_one hlv
            obtain ⟨b1, bsE1, rfl, hlb1⟩ := len_one hlb0
            obtain ⟨v1, vsE1, rfl, hlv1⟩ := len_one hlv0
            obtain rfl := len_nil hlb1
            obtain rfl := len_nil hlv1
            replace h : BG wr m b0 b1 v0 W := h
            clear hnd
            have HST := Lib.hid h
            intro K Q hK
            simp only [putE, updAll, Act.put, List.setIfInBounds_toArray, List.set_cons_zero, List.set_cons_succ, List.set_nil] at hK ⊢
            go_wp2_with (fail)
            all_goals (first | exact hK _ (by first | exact h | exact h.step (by first | assumption | (repeat' (first | exact Below.refl _ _ | apply bDrewN | apply bDrew)))) | exact (by first | exact h | exact h.step (by first | assumption | (repeat' (first | exact Below.refl _ _ | apply bDrewN | apply bDrew)))))
          · refine ⟨81, (.pointer (some ⟨gx, 22, none⟩)), rfl, by kernel_rfl, ?_⟩
            intro bsE vsE W hlb hlv hnd h
            obtain ⟨b0, bsE0, rfl, hlb0⟩ := len_one hlb
            obtain ⟨v0, vsE0, rfl, hlv0⟩ := len_one hlv
            obtain ⟨b1, bsE1, rfl, hlb1⟩ := len_one hlb0
            obtain ⟨v1, vsE1, rfl, hlv1⟩ := len_one hlv0
            obtain rfl := len_nil hlb1
            obtain rfl := len_nil hlv1
            replace h : BG wr m b0 b1 v0 W := h
            clear hnd
            have HST := Lib.hid h
            intro K Q hK
            simp only [putE, updAll, Act.put, List.setIfInBounds_toArray, List.set_cons_zero, List.set_cons_succ, List.set_nil] at hK ⊢
            go_wp2_with (fail)
            all_goals (first | exact hK _ (by first | exact h | exact h.step (by first | assumption | (repeat' (first | exact Below.refl _ _ | apply bDrewN | apply bDrew)))) | exact (by first | exact h | exact h.step (by first | assumption | (repeat' (first | exact Below.refl _ _ | apply bDrewN | apply bDrew)))))
          · refine ⟨82, (.int .i64 (m 21)), rfl, by kernel_rfl, ?_⟩
            intro bsE vsE W hlb hlv hnd h
            obtain ⟨b0, bsE0, rfl, hlb0⟩ := len_one hlb
            obtain ⟨v0, vsE0, rfl, hlv0⟩ := len_one hlv
            obtain ⟨b1, bsE1, rfl, hlb1⟩ := len_one hlb0
            obtain ⟨v1, vsE1, rfl, hlv1⟩ := len_one hlv0
            obtain rfl := len_nil hlb1
            obtain rfl := len_nil hlv1
            replace h : BG wr m b0 b1 v0 W := h
            clear hnd
            have HST := Lib.hid h
            have g0 := (h.bel.cell (p := ⟨gx, 22, none⟩) gl).trans (HM.out 21 (by decide))
            intro K Q hK
            simp only [putE, updAll, Act.put, List.setIfInBounds_toArray, List.set_cons_zero, List.set_cons_succ, List.set_nil] at hK ⊢
            go_wp2_with (fail)
            all_goals (first | exact hK _ (by first | exact h | exact h.step (by first | assumption | (repeat' (first | exact Below.refl _ _ | apply bDrewN | apply bDrew)))) | exact (by first | exact h | exact h.step (by first | assumption | (repeat' (first | exact Below.refl _ _ | apply bDrewN | apply bDrew)))))
          · refine ⟨83, (.agg #[.int .i64 (m 0), .int .i64 (m 1), .int .i64 (m 2), .int .i64 (m 3), .int .i64 (m 4), .int .i64 (m 5), .int .i64 0, .int .i64 0, .int .i64 0, .int .i64 0, .int .i64 0, .int .i64 0, .int .i64 0, .int .i64 0, .int .i64 0, .int .i64 0, .int .i64 0, .int .i64 0, .int .i64 (m 18), .int .i64 (m 19), .int .i64 (m 20), .int .i64 (m 21)]), rfl, by kernel_rfl, ?_⟩
            intro bsE vsE W hlb hlv hnd h
            obtain ⟨b0, bsE0, rfl, hlb0⟩ := len_one hlb
            obtain ⟨v0, vsE0, rfl, hlv0⟩ := len_one hlv
            obtain ⟨b1, bsE1, rfl, hlb1⟩ := len_one hlb0
            obtain ⟨v1, vsE1, rfl, hlv1⟩ := len_one hlv0
            obtain rfl := len_nil hlb1
            obtain rfl := len_nil hlv1
            replace h : BG wr m b0 b1 v0 W := h
            clear hnd
            have HST := Lib.hid h
            intro K Q hK
            simp only [putE, updAll, Act.put, List.setIfInBounds_toArray, List.set_cons_zero, List.set_cons_succ, List.set_nil] at hK ⊢
            go_wp2_with (fail)
            all_goals (first | exact hK _ (by first | exact h | exact h.step (by first | assumption | (repeat' (first | exact Below.refl _ _ | apply bDrewN | apply bDrew)))) | exact (by first | exact h | exact h.step (by first | assumption | (repeat' (first | exact Below.refl _ _ | apply bDrewN | apply bDrew)))))
          · refine Or.inl ⟨9, rfl, ?_⟩
            intro bsE vsE W hlb hlv hnd hbk h
            obtain ⟨b0, bsE0, rfl, hlb0⟩ := len_one hlb
            obtain ⟨v0, vsE0, rfl, hlv0⟩ := len_one hlv
            obtain ⟨b1, bsE1, rfl, hlb1⟩ := len_one hlb0
            obtain ⟨v1, vsE1, rfl, hlv1⟩ := len_one hlv0
            obtain rfl := len_nil hlb1
            obtain rfl := len_nil hlv1
            obtain rfl : b0 = false := hbk
            replace h : BG wr m false b1 v0 W := h
            clear hnd
            have HST := Lib.hid h
            intro K Q hK
            simp only [putE, updAll, Act.put, List.setIfInBounds_toArray, List.set_cons_zero, List.set_cons_succ, List.set_nil] at hK ⊢
            go_wp2_with fail
            all_goals (first | exact hK _ _ h.mk0 | exact h.mk0)
          · refine Or.inr ⟨rfl, ?_⟩
            intro bsE vsE W hlb hlv hnd hbk h
            obtain ⟨b0, bsE0, rfl, hlb0⟩ := len_one hlb
            obtain ⟨v0, vsE0, rfl, hlv0⟩ := len_one hlv
            obtain ⟨b1, bsE1, rfl, hlb1⟩ := len_one hlb0
            obtain ⟨v1, vsE1, rfl, hlv1⟩ := len_one hlv0
            obtain rfl := len_nil hlb1
            obtain rfl := len_nil hlv1
            obtain rfl : b0 = true := hnd 0 (by simp)
            obtain rfl : b1 = false := hbk
            replace h : BG wr m true false v0 W := h
            clear hnd
            have HST := Lib.hid h
            obtain ⟨r, er, hr1, hr2⟩ := h.bx rfl; subst er
            intro K Q hK
            simp only [putE, updAll, Act.put, List.setIfInBounds_toArray, List.set_cons_zero, List.set_cons_succ, List.set_nil] at hK ⊢
            refine wp_store_mid 25 (.tmp 9) (.tmp 83) rfl r 0 #[.int .i64 (m 0), .int .i64 (m 1), .int .i64 (m 2), .int .i64 (m 3), .int .i64 (m 4), .int .i64 (m 5), .int .i64 0, .int .i64 0, .int .i64 0, .int .i64 0, .int .i64 0, .int .i64 0, .int .i64 0, .int .i64 0, .int .i64 0, .int .i64 0, .int .i64 0, .int .i64 0, .int .i64 (m 18), .int .i64 (m 19), .int .i64 (m 20), .int .i64 (m 21)] rfl rfl (gthere hr2) gsize (gone (fillN m 6)) ?_
            first | exact hK _ h.put | exact h.put
        case done =>
          intro vsE W hlv h
          obtain ⟨v0, vsE0, rfl, hlv0⟩ := len_one hlv
          obtain ⟨v1, vsE1, rfl, hlv1⟩ := len_one hlv0
          obtain rfl := len_nil hlv1
          replace h : BG wr m true true v0 W := h
          have HST := Lib.hid h
          obtain ⟨G, eG, hG1, hG2⟩ := h.bx rfl
          subst eG
          have Q0 : QR w gx X G 6 W := ⟨bStep P0.out.mq.bel h.bel, blk_step P0.out.bk h.bel, fun k hk => cell_step (HR.out k hk) h.bel, by rw [HMM.out]; exact hG2, by have := blk_lt P0.out.bk; omega, by omega⟩
          replace Q0 := Lib.hid Q0
          clear h HST hG1 hG2 HM gl HR
          simp only [putE, updAll, Act.put, List.setIfInBounds_toArray, List.set_cons_zero, List.set_cons_succ, List.set_nil]
          go_wp2_with fail
          go_loopw [10] (fun i wr => ∃ k : Nat, k ≤ 5 ∧ i = .int .i64 k ∧ Hid (QR w gx X G (6 + k) wr)) (fun i _ => 5 - (intOf i).toNat)
          case atStart => exact ⟨0, by omega, rfl, Q0⟩
          case round =>
            obtain ⟨k, hk, rfl, Q2⟩ := hrel
            clear Q0
            have i3 : (0 : Int) ≤ (k : Int) := by omega
            by_cases hlt : k < 5
            · have hlt2 : (k : Int) < 5 := by omega
              have hlt3 : (7 : Int) + k < 23 := by omega
              have ac : wr.cell? ⟨gx, 7 + k, none⟩ = some (.int .i64 (X.getD (6 + k + 1) 0)) := by rw [show 6 + k + 1 = 7 + k by omega]; exact Q2.out.row (7 + k) (by omega)
              have al := cell_lt ac
              have gc := gcells Q2.out.gb (show 6 + k < 22 by omega)
              have gf := blk_free (o := 6 + k) Q2.out.gb
              have gl := blk_lt Q2.out.gb
              have Q3 := Lib.hid (Q2.out.next (show 6 + k < 18 by omega))
              go_wp2_with fail
              go_roundw
              case rel => first | exact ⟨k + 1, by omega, by push_cast; rfl, Q3⟩ | ((repeat apply Exists.intro); exact ⟨⟨k + 1, by omega, by push_cast; rfl, Q3⟩, rfl⟩)
              case measure => (simp [intOf]; omega)
            · obtain rfl : k = 5 := by omega
              have Q0 : Hid (QR w gx X G 11 wr) := Q2
              clear Q2 hlt hk i3
              go_wp2_with fail
              go_loopw [11] (fun i wr => ∃ k : Nat, k ≤ 7 ∧ i = .int .i64 k ∧ Hid (QR w gx X G (11 + k) wr)) (fun i _ => 7 - (intOf i).toNat)
              case atStart => exact ⟨0, by omega, rfl, Q0⟩
              case round =>
                obtain ⟨k, hk, rfl, Q2⟩ := hrel
                clear Q0
                have i3 : (0 : Int) ≤ (k : Int) := by omega
                by_cases hlt : k < 7
                · have hlt2 : (k : Int) < 7 := by omega
                  have hlt3 : (12 : Int) + k < 23 := by omega
                  have ac : wr.cell? ⟨gx, 12 + k, none⟩ = some (.int .i64 (X.getD (11 + k + 1) 0)) := by rw [show 11 + k + 1 = 12 + k by omega]; exact Q2.out.row (12 + k) (by omega)
                  have al := cell_lt ac
                  have gc := gcells Q2.out.gb (show 11 + k < 22 by omega)
                  have gf := blk_free (o := 11 + k) Q2.out.gb
                  have gl := blk_lt Q2.out.gb
                  have Q3 := Lib.hid (Q2.out.next (show 11 + k < 18 by omega))
                  go_wp2_with fail
                  go_roundw
                  case rel => first | exact ⟨k + 1, by omega, by push_cast; rfl, Q3⟩ | ((repeat apply Exists.intro); exact ⟨⟨k + 1, by omega, by push_cast; rfl, Q3⟩, rfl⟩)
                  case measure => (simp [intOf]; omega)
                · obtain rfl : k = 7 := by omega
                  have Q0 : Hid (QR w gx X G 18 wr) := Q2
                  clear Q2 hlt hk i3
                  have Q3 : Hid (QR w gx X G 18 wr) := Q0
                  clear Q0
                  have gb : wr.heap[G]? = some (gObj m) := by have := Q3.out.gb; rwa [fill_all, HMM.out] at this
                  have HT := Lib.hid (fun W hG => RText_any m W hG)
                  have hgl : gL m = X.drop 1 := by rw [← HMM.out]; exact drop_gL H23.out
                  have HRD2 := Lib.hid (show ¬ (chkR m = 0 ∧ gTxt (gL m) = l) → _ from fun h => HRD.out (fun q => h (by rw [hgl, ← HMM.out]; exact q)))
                  clear HRD hgl
                  by_cases hA : chkR m = 0 ∧ (txS m).1 = s
                  · have e2 : (txS m).2 = 0 := by rw [txS_ok hA.1]
                    rw [hA.2, e2] at HT
                    have HP := Lib.hid (pa_some hA.1 (HST.out m hA.1 hA.2))
                    clear hA e2 HRD2
                    go_wp2_with (first | (refine wpList_load_mid rfl 25 (.tmp 9) rfl G 0 rfl [.int .i64 (m 0), .int .i64 (m 1), .int .i64 (m 2), .int .i64 (m 3), .int .i64 (m 4), .int .i64 (m 5), .int .i64 (m 6), .int .i64 (m 7), .int .i64 (m 8), .int .i64 (m 9), .int .i64 (m 10), .int .i64 (m 11), .int .i64 (m 12), .int .i64 (m 13), .int .i64 (m 14), .int .i64 (m 15), .int .i64 (m 16), .int .i64 (m 17), .int .i64 (m 18), .int .i64 (m 19), .int .i64 (m 20), .int .i64 (m 21)] _ (grange gb) Tryz.underlying25 rfl gsize ?_) | (refine wpList_load_mid rfl 25 (.tmp 9) rfl G 0 rfl [.int .i64 (m 0), .int .i64 (m 1), .int .i64 (m 2), .int .i64 (m 3), .int .i64 (m 4), .int .i64 (m 5), .int .i64 (m 6), .int .i64 (m 7), .int .i64 (m 8), .int .i64 (m 9), .int .i64 (m 10), .int .i64 (m 11), .int .i64 (m 12), .int .i64 (m 13), .int .i64 (m 14), .int .i64 (m 15), .int .i64 (m 16), .int .i64 (m 17), .int .i64 (m 18), .int .i64 (m 19), .int .i64 (m 20), .int .i64 (m 21)] _ (grange gb5) Tryz.underlying25 rfl gsize ?_) | (go_at_call 6; refine (HT.out _ (gstep HG.out Q3.out.bel)).mono ?_; rintro e w5 ⟨rfl, hb5⟩; have Q4 := Lib.hid (Q3.out.step hb5); have gb5 := blk_step gb hb5) | (refine wpList_store_mid rfl 25 (.tmp 2) (.tmp 121) rfl w.heap.size 0 #[.int .i64 (m 0), .int .i64 (m 1), .int .i64 (m 2), .int .i64 (m 3), .int .i64 (m 4), .int .i64 (m 5), .int .i64 (m 6), .int .i64 (m 7), .int .i64 (m 8), .int .i64 (m 9), .int .i64 (m 10), .int .i64 (m 11), .int .i64 (m 12), .int .i64 (m 13), .int .i64 (m 14), .int .i64 (m 15), .int .i64 (m 16), .int .i64 (m 17), .int .i64 (m 18), .int .i64 (m 19), .int .i64 (m 20), .int .i64 (m 21)] rfl rfl (gthere Q4.out.rb) gsize (gone m) ?_))
                    exact bodyPost_ret (v := .tuple #[.agg #[.int .i64 (m 0), .int .i64 (m 1), .int .i64 (m 2), .int .i64 (m 3), .int .i64 (m 4), .int .i64 (m 5), .int .i64 (m 6), .int .i64 (m 7), .int .i64 (m 8), .int .i64 (m 9), .int .i64 (m 10), .int .i64 (m 11), .int .i64 (m 12), .int .i64 (m 13), .int .i64 (m 14), .int .i64 (m 15), .int .i64 (m 16), .int .i64 (m 17), .int .i64 (m 18), .int .i64 (m 19), .int .i64 (m 20), .int .i64 (m 21)], .int .i64 0]) (res_cell Tryz.results8 rfl (gload (gstore (n := m) Q4.out.rb)) rfl) rfl ⟨by rw [HP.out.2, HP.out.1 0 (by decide), HP.out.1 1 (by decide), HP.out.1 2 (by decide), HP.out.1 3 (by decide), HP.out.1 4 (by decide), HP.out.1 5 (by decide), HP.out.1 6 (by decide), HP.out.1 7 (by decide), HP.out.1 8 (by decide), HP.out.1 9 (by decide), HP.out.1 10 (by decide), HP.out.1 11 (by decide), HP.out.1 12 (by decide), HP.out.1 13 (by decide), HP.out.1 14 (by decide), HP.out.1 15 (by decide), HP.out.1 16 (by decide), HP.out.1 17 (by decide), HP.out.1 18 (by decide), HP.out.1 19 (by decide), HP.out.1 20 (by decide), HP.out.1 21 (by decide)], bSetCells _ _ Q4.out.bel (Nat.le_refl _)⟩
                  · have HN := Lib.hid (HRD2.out (fun h => hA ⟨h.1, ba_inj (by rw [txS_ok h.1, h.2, ← HLS.out])⟩))
                    clear HRD2
                    by_cases hc : chkR m = 0
                    · have hne : ¬ (txS m).1 = s := fun e => hA ⟨hc, e⟩
                      have e2 : (txS m).2 = 0 := by rw [txS_ok hc]
                      rw [e2] at HT
                      generalize (txS m).1 = t at *
                      have hn2 := ba_nl hne
                      have hn3 : (t.toList == s.toList) = false := by simpa using hn2
                      clear hA e2
                      go_wp2_with (first | (refine wpList_load_mid rfl 25 (.tmp 9) rfl G 0 rfl [.int .i64 (m 0), .int .i64 (m 1), .int .i64 (m 2), .int .i64 (m 3), .int .i64 (m 4), .int .i64 (m 5), .int .i64 (m 6), .int .i64 (m 7), .int .i64 (m 8), .int .i64 (m 9), .int .i64 (m 10), .int .i64 (m 11), .int .i64 (m 12), .int .i64 (m 13), .int .i64 (m 14), .int .i64 (m 15), .int .i64 (m 16), .int .i64 (m 17), .int .i64 (m 18), .int .i64 (m 19), .int .i64 (m 20), .int .i64 (m 21)] _ (grange gb) Tryz.underlying25 rfl gsize ?_) | (go_at_call 6; refine (HT.out _ (gstep HG.out Q3.out.bel)).mono ?_; rintro e w5 ⟨rfl, hb5⟩; have Q4 := Lib.hid (Q3.out.step hb5); have gb5 := blk_step gb hb5) | (refine wpList_store_mid rfl 25 (.tmp 2) (.tmp 120) rfl w.heap.size 0 #[.int .i64 0, .int .i64 0, .int .i64 0, .int .i64 0, .int .i64 0, .int .i64 0, .int .i64 0, .int .i64 0, .int .i64 0, .int .i64 0, .int .i64 0, .int .i64 0, .int .i64 0, .int .i64 0, .int .i64 0, .int .i64 0, .int .i64 0, .int .i64 0, .int .i64 0, .int .i64 0, .int .i64 0, .int .i64 0] rfl rfl (gthere Q4.out.rb) gsize (gone zN) ?_))
                      exact bodyPost_ret (v := .tuple #[.agg #[.int .i64 0, .int .i64 0, .int .i64 0, .int .i64 0, .int .i64 0, .int .i64 0, .int .i64 0, .int .i64 0, .int .i64 0, .int .i64 0, .int .i64 0, .int .i64 0, .int .i64 0, .int .i64 0, .int .i64 0, .int .i64 0, .int .i64 0, .int .i64 0, .int .i64 0, .int .i64 0, .int .i64 0, .int .i64 0], .int .i64 8]) (res_cell Tryz.results8 rfl (gload (gstore (n := zN) Q4.out.rb)) rfl) rfl ⟨by rw [HN.out.1, HN.out.2], bSetCells _ _ Q4.out.bel (Nat.le_refl _)⟩
                    · rw [txS_no hc] at HT
                      dsimp only at HT
                      clear hA
                      go_wp2_with (first | (refine wpList_load_mid rfl 25 (.tmp 9) rfl G 0 rfl [.int .i64 (m 0), .int .i64 (m 1), .int .i64 (m 2), .int .i64 (m 3), .int .i64 (m 4), .int .i64 (m 5), .int .i64 (m 6), .int .i64 (m 7), .int .i64 (m 8), .int .i64 (m 9), .int .i64 (m 10), .int .i64 (m 11), .int .i64 (m 12), .int .i64 (m 13), .int .i64 (m 14), .int .i64 (m 15), .int .i64 (m 16), .int .i64 (m 17), .int .i64 (m 18), .int .i64 (m 19), .int .i64 (m 20), .int .i64 (m 21)] _ (grange gb) Tryz.underlying25 rfl gsize ?_) | (go_at_call 6; refine (HT.out _ (gstep HG.out Q3.out.bel)).mono ?_; rintro e w5 ⟨rfl, hb5⟩; have Q4 := Lib.hid (Q3.out.step hb5); have gb5 := blk_step gb hb5) | (refine wpList_store_mid rfl 25 (.tmp 2) (.tmp 120) rfl w.heap.size 0 #[.int .i64 0, .int .i64 0, .int .i64 0, .int .i64 0, .int .i64 0, .int .i64 0, .int .i64 0, .int .i64 0, .int .i64 0, .int .i64 0, .int .i64 0, .int .i64 0, .int .i64 0, .int .i64 0, .int .i64 0, .int .i64 0, .int .i64 0, .int .i64 0, .int .i64 0, .int .i64 0, .int .i64 0, .int .i64 0] rfl rfl (gthere Q4.out.rb) gsize (gone zN) ?_))
                      exact bodyPost_ret (v := .tuple #[.agg #[.int .i64 0, .int .i64 0, .int .i64 0, .int .i64 0, .int .i64 0, .int .i64 0, .int .i64 0, .int .i64 0, .int .i64 0, .int .i64 0, .int .i64 0, .int .i64 0, .int .i64 0, .int .i64 0, .int .i64 0, .int .i64 0, .int .i64 0, .int .i64 0, .int .i64 0, .int .i64 0, .int .i64 0, .int .i64 0], .int .i64 8]) (res_cell Tryz.results8 rfl (gload (gstore (n := zN) Q4.out.rb)) rfl) rfl ⟨by rw [HN.out.1, HN.out.2], bSetCells _ _ Q4.out.bel (Nat.le_refl _)⟩
      · have HN := Lib.hid (HNM.out (by rw [← hPX]; exact h23))
        have hnb : ((X.length : Int) != 23) = true := by simp; omega
        clear hA HNM HRD HV h23 hPX HPX HA
        rcases hex with h1 | ⟨h1, h2⟩
        all_goals
          go_wp2_with (refine wpList_store_mid rfl 25 (.tmp 2) (.tmp 52) rfl w.heap.size 0 #[.int .i64 0, .int .i64 0, .int .i64 0, .int .i64 0, .int .i64 0, .int .i64 0, .int .i64 0, .int .i64 0, .int .i64 0, .int .i64 0, .int .i64 0, .int .i64 0, .int .i64 0, .int .i64 0, .int .i64 0, .int .i64 0, .int .i64 0, .int .i64 0, .int .i64 0, .int .i64 0, .int .i64 0, .int .i64 0] rfl rfl (gthere P0.out.bk) gsize (gone zN) ?_)
          exact bodyPost_ret (v := .tuple #[.agg #[.int .i64 0, .int .i64 0, .int .i64 0, .int .i64 0, .int .i64 0, .int .i64 0, .int .i64 0, .int .i64 0, .int .i64 0, .int .i64 0, .int .i64 0, .int .i64 0, .int .i64 0, .int .i64 0, .int .i64 0, .int .i64 0, .int .i64 0, .int .i64 0, .int .i64 0, .int .i64 0, .int .i64 0, .int .i64 0], .int .i64 8]) (res_cell Tryz.results8 rfl (gload (gstore (n := zN) P0.out.bk)) rfl) rfl ⟨by rw [HN.out.1, HN.out.2], bSetCells _ _ P0.out.mq.bel (Nat.le_refl _)⟩
end Go.Proofs.YtpdhkgfdmpofiaaGreatDoor
