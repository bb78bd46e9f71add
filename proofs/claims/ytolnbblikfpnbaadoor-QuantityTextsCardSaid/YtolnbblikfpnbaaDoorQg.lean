/-
  QuantityTexts: the walk.
-/
import Derived.Test.YtolnbblikfpnbaaDoorQe
import Derived.Test.YtolnbblikfpnbaaDoorWk
set_option linter.unusedSimpArgs false
set_option linter.unusedVariables false
namespace Go.Proofs.YtolnbblikfpnbaaDoor
open Sx Go.RowKit
theorem textR_ok {p : Int × Int} (h : okS p = true) : textR p = (⟨(txtP p).toArray⟩, 0) := by unfold textR; rw [if_pos h]
theorem textR_no {p : Int × Int} (h : okS p = false) : textR p = (⟨#[]⟩, 2) := by unfold textR; rw [if_neg (by rw [h]; decide)]
theorem txt_size {p : Int × Int} (h : okP p) : (ByteArray.mk (txtP p).toArray).size ≤ 1000000 := by
  obtain ⟨b1, b2, b3⟩ := h
  have l1 := okP_len b1 (by omega)
  have l2 := okP_len (by omega) b3
  rw [Lib.size_eq]
  unfold txtP
  simp only [List.toList_toArray, List.length_append, List.length_cons]
  omega
theorem sp_open {b : Nat} {x y : Int} {W : World} {T : TypeId} (h : W.heap[b]? = some (.cells #[.int .i64 x, .int .i64 y] T)) : W.cell? ⟨b, 0, none⟩ = some (.int .i64 x) ∧ W.cell? ⟨b, 1, none⟩ = some (.int .i64 y) ∧ b < W.heap.size :=
  ⟨blk_cell h rfl, blk_cell h rfl, blk_lt h⟩
set_option maxHeartbeats 4000000 in
set_option maxRecDepth 20000 in
theorem QuantityTexts_walk (x : Int) (_ : (Lit.int .i64 x).wf = true) (y : Int) (_ : (Lit.int .i64 y).wf = true) (s : ByteArray) (w : World) (hG : Glob0 w) :
    Calls Tryd.prog 3 #[.agg #[.int .i64 x, .int .i64 y], .string s] w fun e w' => e = .returned (.bool true) ∧ Below w.heap.size w w' := by
  have CW := Lib.hid (fun W => works_any W)
  have HG := Lib.hid hG
  by_cases hl : 5000 < s.size
  · have hl2 : 5000 < (s.size : Int) := by omega
    clear hl hG
    go_enter Tryd.func3, Tryd.ntmps3
    go_wp2_with (go_at_call 5; refine (CW.out _).mono ?_; rintro e w1 ⟨rfl, hb1⟩)
    go_ret
    exact ⟨rfl, (by repeat' (first | exact Below.refl _ _ | assumption | apply bDrewN | apply bDrew | apply bAlloc | (refine bSet ?_ ?_ _) | (refine bStep ?_ (by assumption)) | omega | (simp <;> omega)))⟩
  · have hl2 : ¬ 5000 < (s.size : Int) := by omega
    have T1 := Lib.hid (fun W hG => Text_any (x, y) W hG)
    have T2 := Lib.hid (fun W => RText_any (x, y) W)
    have P1 := Lib.hid (fun W hG => Parse_any s W (by omega) hG)
    have P2 := Lib.hid (fun W => RParse_any s W (by omega))
    dsimp only at T1 T2
    generalize hr : parR s.data.toList = r at *
    obtain ⟨⟨rx, ry⟩, re⟩ := r
    dsimp only at P1 P2
    clear hr hl
    cases hk : okS (x, y)
    · rw [textR_no hk] at T1 T2
      dsimp only at T1 T2
      clear hk hG
      have B0 := Lib.hid (blk_new w (.cells #[.int .i64 x, .int .i64 y] 23))
      go_enter Tryd.func3, Tryd.ntmps3
      go_wp2_with (first
        | (go_at_call 6; refine (T1.out _ (gstep HG.out (by repeat' (first | exact Below.refl _ _ | assumption | apply bDrewN | apply bDrew | apply bAlloc | (refine bSet ?_ ?_ _) | (refine bStep ?_ (by assumption)) | omega | (simp <;> omega))))).mono ?_; rintro e w1 ⟨rfl, hb1⟩; replace B0 := Lib.hid (blk_step B0.out hb1); obtain ⟨c0, c1, k0⟩ := sp_open B0.out)
        | (go_at_call 7; refine (T2.out _).mono ?_; rintro e w2 ⟨rfl, hb2⟩; replace B0 := Lib.hid (blk_step B0.out hb2); obtain ⟨c0, c1, k0⟩ := sp_open B0.out)
        | (go_at_call 8; (with_reducible refine (P1.out _ (gstep HG.out (by repeat' (first | exact Below.refl _ _ | assumption | apply bDrewN | apply bDrew | apply bAlloc | (refine bSet ?_ ?_ _) | (refine bStep ?_ (by assumption)) | omega | (simp <;> omega))))).mono ?_); rintro e w3 ⟨rfl, hb3⟩; replace B0 := Lib.hid (blk_step B0.out hb3); obtain ⟨c0, c1, k0⟩ := sp_open B0.out)
        | (go_at_call 9; refine (P2.out _).mono ?_; rintro e w4 ⟨rfl, hb4⟩; replace B0 := Lib.hid (blk_step (blk_alloc B0.out) hb4); obtain ⟨c0, c1, k0⟩ := sp_open B0.out; obtain ⟨c2, c3, k2⟩ := sp_open (blk_step (blk_new w3 (.cells #[.int .i64 rx, .int .i64 ry] 23)) hb4))
        | (go_at_call 5; refine (CW.out _).mono ?_; rintro e w6 ⟨rfl, hb6⟩))
      all_goals (go_ret; exact ⟨rfl, (by repeat' (first | exact Below.refl _ _ | assumption | apply bDrewN | apply bDrew | apply bAlloc | (refine bSet ?_ ?_ _) | (refine bStep ?_ (by assumption)) | omega | (simp <;> omega)))⟩)
    · have hok := okS_P.1 hk
      have P3 := Lib.hid (fun W hG => Parse_any ⟨(txtP (x, y)).toArray⟩ W (txt_size hok) hG)
      have hp : parR (ByteArray.mk (txtP (x, y)).toArray).data.toList = ((x, y), 0) := by
        unfold parR
        rw [show (ByteArray.mk (txtP (x, y)).toArray).data.toList = txtP (x, y) from rfl, parS_some hok]
      rw [hp] at P3
      rw [textR_ok hk] at T1 T2
      dsimp only at T1 T2 P3
      generalize (ByteArray.mk (txtP (x, y)).toArray) = t at *
      clear hk hok hp hG
      have B0 := Lib.hid (blk_new w (.cells #[.int .i64 x, .int .i64 y] 23))
      go_enter Tryd.func3, Tryd.ntmps3
      go_wp2_with (first
        | (go_at_call 6; refine (T1.out _ (gstep HG.out (by repeat' (first | exact Below.refl _ _ | assumption | apply bDrewN | apply bDrew | apply bAlloc | (refine bSet ?_ ?_ _) | (refine bStep ?_ (by assumption)) | omega | (simp <;> omega))))).mono ?_; rintro e w1 ⟨rfl, hb1⟩; replace B0 := Lib.hid (blk_step B0.out hb1); obtain ⟨c0, c1, k0⟩ := sp_open B0.out)
        | (go_at_call 7; refine (T2.out _).mono ?_; rintro e w2 ⟨rfl, hb2⟩; replace B0 := Lib.hid (blk_step B0.out hb2); obtain ⟨c0, c1, k0⟩ := sp_open B0.out)
        | (go_at_call 8; (with_reducible refine (P1.out _ (gstep HG.out (by repeat' (first | exact Below.refl _ _ | assumption | apply bDrewN | apply bDrew | apply bAlloc | (refine bSet ?_ ?_ _) | (refine bStep ?_ (by assumption)) | omega | (simp <;> omega))))).mono ?_); rintro e w3 ⟨rfl, hb3⟩; replace B0 := Lib.hid (blk_step B0.out hb3); obtain ⟨c0, c1, k0⟩ := sp_open B0.out)
        | (go_at_call 9; refine (P2.out _).mono ?_; rintro e w4 ⟨rfl, hb4⟩; replace B0 := Lib.hid (blk_step (blk_alloc B0.out) hb4); obtain ⟨c0, c1, k0⟩ := sp_open B0.out; obtain ⟨c2, c3, k2⟩ := sp_open (blk_step (blk_new w3 (.cells #[.int .i64 rx, .int .i64 ry] 23)) hb4))
        | (go_at_call 8; (with_reducible refine (P3.out _ (gstep HG.out (by repeat' (first | exact Below.refl _ _ | assumption | apply bDrewN | apply bDrew | apply bAlloc | (refine bSet ?_ ?_ _) | (refine bStep ?_ (by assumption)) | omega | (simp <;> omega))))).mono ?_); rintro e w5 ⟨rfl, hb5⟩; replace B0 := Lib.hid (blk_step (blk_alloc B0.out) hb5); obtain ⟨c0, c1, k0⟩ := sp_open B0.out)
        | (go_at_call 5; refine (CW.out _).mono ?_; rintro e w6 ⟨rfl, hb6⟩))
      all_goals (go_ret; exact ⟨rfl, (by repeat' (first | exact Below.refl _ _ | assumption | apply bDrewN | apply bDrew | apply bAlloc | (refine bSet ?_ ?_ _) | (refine bStep ?_ (by assumption)) | omega | (simp <;> omega)))⟩)
end Go.Proofs.YtolnbblikfpnbaaDoor
