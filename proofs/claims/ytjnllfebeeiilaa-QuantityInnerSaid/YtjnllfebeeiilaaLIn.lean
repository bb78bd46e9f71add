/-
  The walk of the law QuantityInner.
-/
import Derived.Test.YtjnllfebeeiilaaCs
import Derived.Test.YtjnllfebeeiilaaTwo
import Derived.Test.YtjnllfebeeiilaaWo
set_option linter.unusedSimpArgs false
set_option linter.unusedVariables false
namespace Go.Proofs.Ytjnllfebeeiilaa
open Go.RowKit

set_option maxHeartbeats 8000000 in
set_option maxRecDepth 20000 in
theorem inner_core (loa lna ata lob lnb atb loc lnc atc lod lnd atd n d0 : Int) (w : World) (ha1 : -32768 ≤ loa) (ha2 : loa ≤ 32767) (ha3 : -32768 ≤ lna) (ha4 : lna ≤ 32767) (hb1 : -32768 ≤ lob) (hb2 : lob ≤ 32767) (hb3 : -32768 ≤ lnb) (hb4 : lnb ≤ 32767) (hc1 : -32768 ≤ loc) (hc2 : loc ≤ 32767) (hc3 : -32768 ≤ lnc) (hc4 : lnc ≤ 32767) (hd1 : -32768 ≤ lod) (hd2 : lod ≤ 32767) (hd3 : -32768 ≤ lnd) (hd4 : lnd ≤ 32767) (x1 : -32768 ≤ n) (x2 : n ≤ 32767) (y1 : 0 ≤ d0) (y2 : d0 ≤ 65535) :
    Calls Try.prog 7 #[.agg #[.int .i16 loa, .int .i16 lna, .int .u16 ata], .agg #[.int .i16 lob, .int .i16 lnb, .int .u16 atb], .agg #[.int .i16 loc, .int .i16 lnc, .int .u16 atc], .agg #[.int .i16 lod, .int .i16 lnd, .int .u16 atd], .int .i16 n, .int .u16 d0] w fun e w' => e = .returned (.bool true) ∧ Below w.heap.size w w' := by
  have Pa := Lib.hid (fun w => span_any loa lna ata w ha1 ha2 ha3 ha4)
  have sa := SmS_of ha1 ha2 ha3 ha4
  have Pb := Lib.hid (fun w => span_any lob lnb atb w hb1 hb2 hb3 hb4)
  have sb := SmS_of hb1 hb2 hb3 hb4
  have Pc := Lib.hid (fun w => span_any loc lnc atc w hc1 hc2 hc3 hc4)
  have sc := SmS_of hc1 hc2 hc3 hc4
  have Pd := Lib.hid (fun w => span_any lod lnd atd w hd1 hd2 hd3 hd4)
  have sd := SmS_of hd1 hd2 hd3 hd4
  generalize spanOf loa lna = A at *
  generalize spanOf lob lnb = B at *
  generalize spanOf loc lnc = C at *
  generalize spanOf lod lnd = D at *
  obtain ⟨hi1, si⟩ := hull_sm sa sb
  have HA := Lib.hid (fun w => Hull_any A B w)
  rw [hi1] at HA
  have sI := si
  generalize hI : (min A.1 B.1, max A.2 B.2) = I at *
  obtain ⟨hp1, sp⟩ := hull_sm si sc
  have HB := Lib.hid (fun w => Hull_any I C w)
  rw [hp1] at HB
  have jp : Ins I (min I.1 C.1, max I.2 C.2) := by unfold Ins; dsimp only; omega
  generalize hP : (min I.1 C.1, max I.2 C.2) = P at *
  obtain ⟨hr1, sr⟩ := hull_sm sd sb
  have HC := Lib.hid (fun w => Hull_any D B w)
  rw [hr1] at HC
  have jr : Ins D (min D.1 B.1, max D.2 B.2) := by unfold Ins; dsimp only; omega
  generalize hR : (min D.1 B.1, max D.2 B.2) = R at *
  have KI := Lib.hid (fun w => Inside_any I P w)
  rw [ins_mk si.ok sp.ok jp.1 jp.2] at KI
  have KD := Lib.hid (fun w => Inside_any D R w)
  rw [ins_mk sd.ok sr.ok jr.1 jr.2] at KD
  have hd1 : 1 ≤ d0 + 1 := by omega
  have hd2 : d0 + 1 ≤ 65536 := by omega
  have WL := Lib.hid (fun i => inner_law i si sd sp sr jp jr x1 x2 hd1 hd2)
  have W1 := Lib.hid (fun i w => work_any i I D n (d0 + 1) w x1 x2 hd1 hd2)
  have W2 := Lib.hid (fun i w => work_any i P R n (d0 + 1) w x1 x2 hd1 hd2)
  clear hI hP hR hi1 hp1 hr1 jp jr sa sb sc sd si sp sr sI hd1 hd2
  obtain ⟨A1, A2⟩ := A
  obtain ⟨B1, B2⟩ := B
  obtain ⟨C1, C2⟩ := C
  obtain ⟨D1, D2⟩ := D
  obtain ⟨I1, I2⟩ := I
  obtain ⟨P1, P2⟩ := P
  obtain ⟨R1, R2⟩ := R
  dsimp only at *
  go_enter Try.func7, Try.ntmps7
  go_wp2
  have hl0 : w.heap.size < w.heap.size + 4 := by omega
  have hS : Cs w (w.heap.size + 4) [(w.heap.size, 0, .int .i16 loa), (w.heap.size, 1, .int .i16 lna), (w.heap.size, 2, .int .u16 ata), (w.heap.size + 1, 0, .int .i16 lob), (w.heap.size + 1, 1, .int .i16 lnb), (w.heap.size + 1, 2, .int .u16 atb), (w.heap.size + 2, 0, .int .i16 loc), (w.heap.size + 2, 1, .int .i16 lnc), (w.heap.size + 2, 2, .int .u16 atc), (w.heap.size + 3, 0, .int .i16 lod), (w.heap.size + 3, 1, .int .i16 lnd), (w.heap.size + 3, 2, .int .u16 atd)] ((((w.alloc (Obj.cells #[.int .i16 loa, .int .i16 lna, .int .u16 ata] 25)).alloc (Obj.cells #[.int .i16 lob, .int .i16 lnb, .int .u16 atb] 25)).alloc (Obj.cells #[.int .i16 loc, .int .i16 lnc, .int .u16 atc] 25)).alloc (Obj.cells #[.int .i16 lod, .int .i16 lnd, .int .u16 atd] 25)) :=
    (Cs.cons (Cs.cons (Cs.cons (Cs.cons (Cs.cons (Cs.cons (Cs.cons (Cs.cons (Cs.cons (Cs.cons (Cs.cons (Cs.cons (Cs.nil (by omega) (by repeat' (first | exact Below.refl _ _ | assumption | apply bDrewN | apply bDrew | apply bAlloc | (refine bSet ?_ ?_ _) | (refine bStep ?_ (by assumption)) | omega | (simp <;> omega)))) (by go_simp) (by omega)) (by go_simp) (by omega)) (by go_simp) (by omega)) (by go_simp) (by omega)) (by go_simp) (by omega)) (by go_simp) (by omega)) (by go_simp) (by omega)) (by go_simp) (by omega)) (by go_simp) (by omega)) (by go_simp) (by omega)) (by go_simp) (by omega)) (by go_simp) (by omega))
  have HS := Lib.hid hS
  clear hS hl0
  go_cut [13, 14] (fun s13 s14 W => ∃ r : Nat, s13 = .pointer (some ⟨r, 0, none⟩) ∧ s14 = .int .i64 0 ∧ Cs w W.heap.size [(r, 0, .int .i64 I1), (r, 1, .int .i64 I2), (w.heap.size, 0, .int .i16 loa), (w.heap.size, 1, .int .i16 lna), (w.heap.size, 2, .int .u16 ata), (w.heap.size + 1, 0, .int .i16 lob), (w.heap.size + 1, 1, .int .i16 lnb), (w.heap.size + 1, 2, .int .u16 atb), (w.heap.size + 2, 0, .int .i16 loc), (w.heap.size + 2, 1, .int .i16 lnc), (w.heap.size + 2, 2, .int .u16 atc), (w.heap.size + 3, 0, .int .i16 lod), (w.heap.size + 3, 1, .int .i16 lnd), (w.heap.size + 3, 2, .int .u16 atd)] W)
  case first =>
    generalize hA0 : (Act.mk _ _) = A0
    refine region_inv (by kernel_rfl) (by kernel_rfl) (fun l a W => ∃ (b0 b1 b2 b3 b4 b5 b6 b7 b8 b9 b10 : Bool) (v28 v29 v30 v31 v32 v27 v33 v34 v13 v14 : Value), l = #[b0, b1, b2, b3, b4, b5, b6, b7, b8, b9, b10] ∧ a = updAll A0 [(28, v28), (29, v29), (30, v30), (31, v31), (32, v32), (27, v27), (33, v33), (34, v34), (13, v13), (14, v14)] ∧ (b0 = true → v28 = (.agg #[.int .i16 loa, .int .i16 lna, .int .u16 ata])) ∧ (b1 = true → v29 = (.agg #[.int .i64 A1, .int .i64 A2])) ∧ (b2 = true → v30 = (.agg #[.int .i16 lob, .int .i16 lnb, .int .u16 atb])) ∧ (b3 = true → v31 = (.agg #[.int .i64 B1, .int .i64 B2])) ∧ (b4 = true → v32 = (.tuple #[.agg #[.int .i64 I1, .int .i64 I2], .int .i64 0])) ∧ (b5 = true → v27 = (.tuple #[.agg #[.int .i64 I1, .int .i64 I2], .int .i64 0])) ∧ (b6 = true → v33 = (.agg #[.int .i64 I1, .int .i64 I2])) ∧ (b7 = true → v34 = (.int .i64 0)) ∧ (b10 = true → v14 = (.int .i64 0)) ∧ (b8 = false → b9 = false) ∧ Cs w (w.heap.size + 4) [(w.heap.size, 0, .int .i16 loa), (w.heap.size, 1, .int .i16 lna), (w.heap.size, 2, .int .u16 ata), (w.heap.size + 1, 0, .int .i16 lob), (w.heap.size + 1, 1, .int .i16 lnb), (w.heap.size + 1, 2, .int .u16 atb), (w.heap.size + 2, 0, .int .i16 loc), (w.heap.size + 2, 1, .int .i16 lnc), (w.heap.size + 2, 2, .int .u16 atc), (w.heap.size + 3, 0, .int .i16 lod), (w.heap.size + 3, 1, .int .i16 lnd), (w.heap.size + 3, 2, .int .u16 atd)] W ∧ w.heap.size + 4 ≤ W.heap.size ∧ BoxF b8 b9 v13 (w.heap.size + 4) #[.int .i64 0, .int .i64 0] #[.int .i64 I1, .int .i64 I2] 27 W) ?h0 ?hsz ?step ?done
    case h0 =>
      refine ⟨false, false, false, false, false, false, false, false, false, false, false, A0.tmps.getD 28 undef, A0.tmps.getD 29 undef, A0.tmps.getD 30 undef, A0.tmps.getD 31 undef, A0.tmps.getD 32 undef, A0.tmps.getD 27 undef, A0.tmps.getD 33 undef, A0.tmps.getD 34 undef, A0.tmps.getD 13 undef, A0.tmps.getD 14 undef, by rfl, ?_, by simp, by simp, by simp, by simp, by simp, by simp, by simp, by simp, by simp, by simp, HS.out.drew, by simp, BoxF.no⟩
      rw [← hA0]
      simp [updAll, Act.put]
    case hsz =>
      rintro l a W ⟨b0, b1, b2, b3, b4, b5, b6, b7, b8, b9, b10, v28, v29, v30, v31, v32, v27, v33, v34, v13, v14, rfl, -⟩
      rfl
    case step =>
      intro iop oop hopi lst act W hInv hlst hdep
      obtain ⟨b0, b1, b2, b3, b4, b5, b6, b7, b8, b9, b10, v28, v29, v30, v31, v32, v27, v33, v34, v13, v14, rfl, rfl, f0, f1, f2, f3, f4, f5, f6, f7, f10, g8, hM, hz, x8⟩ := hInv
      have hi8 : iop < 11 := (Array.getElem?_eq_some_iff.1 hopi).1
      have hi9 : iop = 0 ∨ iop = 1 ∨ iop = 2 ∨ iop = 3 ∨ iop = 4 ∨ iop = 5 ∨ iop = 6 ∨ iop = 7 ∨ iop = 8 ∨ iop = 9 ∨ iop = 10 := by omega
      rcases hi9 with rfl | rfl | rfl | rfl | rfl | rfl | rfl | rfl | rfl | rfl | rfl
      · obtain rfl : b0 = false := by simpa using hlst
        obtain rfl := Option.some.inj (show some _ = some oop from hopi)
        refine step_to (a' := (updAll A0 [(28, v28), (29, v29), (30, v30), (31, v31), (32, v32), (27, v27), (33, v33), (34, v34), (13, v13), (14, v14)]).put (some 28) ((.agg #[.int .i16 loa, .int .i16 lna, .int .u16 ata]))) (w' := W) ?_ ?_
        · intro K' hK'
          subst hA0
          have c0 := hM.at_ (show (w.heap.size, 0, .int .i16 loa) ∈ _ from by simp); have c1 := hM.at_ (show (w.heap.size, 1, .int .i16 lna) ∈ _ from by simp); have c2 := hM.at_ (show (w.heap.size, 2, .int .u16 ata) ∈ _ from by simp); have c3 := hM.at_ (show (w.heap.size + 1, 0, .int .i16 lob) ∈ _ from by simp); have c4 := hM.at_ (show (w.heap.size + 1, 1, .int .i16 lnb) ∈ _ from by simp); have c5 := hM.at_ (show (w.heap.size + 1, 2, .int .u16 atb) ∈ _ from by simp); have c6 := hM.at_ (show (w.heap.size + 2, 0, .int .i16 loc) ∈ _ from by simp); have c7 := hM.at_ (show (w.heap.size + 2, 1, .int .i16 lnc) ∈ _ from by simp); have c8 := hM.at_ (show (w.heap.size + 2, 2, .int .u16 atc) ∈ _ from by simp); have c9 := hM.at_ (show (w.heap.size + 3, 0, .int .i16 lod) ∈ _ from by simp); have c10 := hM.at_ (show (w.heap.size + 3, 1, .int .i16 lnd) ∈ _ from by simp); have c11 := hM.at_ (show (w.heap.size + 3, 2, .int .u16 atd) ∈ _ from by simp)
          refine wpOp_plain rfl rfl ?_
          simp only [updAll, Act.put, List.setIfInBounds_toArray, List.set_cons_zero, List.set_cons_succ] at hK' ⊢
          go_wp2
          exact hK'
        · refine ⟨true, b1, b2, b3, b4, b5, b6, b7, b8, b9, b10, _, v29, v30, v31, v32, v27, v33, v34, v13, v14, by rfl, ?_, fun _ => rfl, f1, f2, f3, f4, f5, f6, f7, f10, g8, hM, hz, x8⟩
          rw [← hA0]
          simp [updAll, Act.put]
      · obtain rfl : b1 = false := by simpa using hlst
        obtain rfl := Option.some.inj (show some _ = some oop from hopi)
        obtain rfl : b0 = true := by
          rcases Bool.eq_false_or_eq_true b0 with hbb | hbb
          · exact hbb
          · exfalso; subst hbb; revert hdep; simp [Region.binds]
        have e0 := f0 rfl
        subst e0
        refine step_ex (fun a' w' => a' = (updAll A0 [(28, (.agg #[.int .i16 loa, .int .i16 lna, .int .u16 ata])), (29, v29), (30, v30), (31, v31), (32, v32), (27, v27), (33, v33), (34, v34), (13, v13), (14, v14)]).put (some 29) ((.agg #[.int .i64 A1, .int .i64 A2])) ∧ Below W.heap.size W w') ?_ ?_
        · intro K' hK'
          subst hA0
          have c0 := hM.at_ (show (w.heap.size, 0, .int .i16 loa) ∈ _ from by simp); have c1 := hM.at_ (show (w.heap.size, 1, .int .i16 lna) ∈ _ from by simp); have c2 := hM.at_ (show (w.heap.size, 2, .int .u16 ata) ∈ _ from by simp); have c3 := hM.at_ (show (w.heap.size + 1, 0, .int .i16 lob) ∈ _ from by simp); have c4 := hM.at_ (show (w.heap.size + 1, 1, .int .i16 lnb) ∈ _ from by simp); have c5 := hM.at_ (show (w.heap.size + 1, 2, .int .u16 atb) ∈ _ from by simp); have c6 := hM.at_ (show (w.heap.size + 2, 0, .int .i16 loc) ∈ _ from by simp); have c7 := hM.at_ (show (w.heap.size + 2, 1, .int .i16 lnc) ∈ _ from by simp); have c8 := hM.at_ (show (w.heap.size + 2, 2, .int .u16 atc) ∈ _ from by simp); have c9 := hM.at_ (show (w.heap.size + 3, 0, .int .i16 lod) ∈ _ from by simp); have c10 := hM.at_ (show (w.heap.size + 3, 1, .int .i16 lnd) ∈ _ from by simp); have c11 := hM.at_ (show (w.heap.size + 3, 2, .int .u16 atd) ∈ _ from by simp)
          refine wpOp_plain rfl rfl ?_
          simp only [updAll, Act.put, List.setIfInBounds_toArray, List.set_cons_zero, List.set_cons_succ] at hK' ⊢
          go_wp2_with (go_at_call 13; refine (Pa.out _).mono ?_; rintro e w1 ⟨rfl, hb1⟩)
          all_goals (first | exact ⟨rfl, hb1⟩ | exact hK' _ _ ⟨rfl, hb1⟩)
        · rintro a' w' ⟨rfl, hb1⟩
          refine ⟨true, true, b2, b3, b4, b5, b6, b7, b8, b9, b10, (.agg #[.int .i16 loa, .int .i16 lna, .int .u16 ata]), _, v30, v31, v32, v27, v33, v34, v13, v14, by rfl, ?_, fun _ => rfl, fun _ => rfl, f2, f3, f4, f5, f6, f7, f10, g8, hM.step hb1, Nat.le_trans hz hb1.size, x8.step hb1⟩
          rw [← hA0]
          simp [updAll, Act.put]
      · obtain rfl : b2 = false := by simpa using hlst
        obtain rfl := Option.some.inj (show some _ = some oop from hopi)
        refine step_to (a' := (updAll A0 [(28, v28), (29, v29), (30, v30), (31, v31), (32, v32), (27, v27), (33, v33), (34, v34), (13, v13), (14, v14)]).put (some 30) ((.agg #[.int .i16 lob, .int .i16 lnb, .int .u16 atb]))) (w' := W) ?_ ?_
        · intro K' hK'
          subst hA0
          have c0 := hM.at_ (show (w.heap.size, 0, .int .i16 loa) ∈ _ from by simp); have c1 := hM.at_ (show (w.heap.size, 1, .int .i16 lna) ∈ _ from by simp); have c2 := hM.at_ (show (w.heap.size, 2, .int .u16 ata) ∈ _ from by simp); have c3 := hM.at_ (show (w.heap.size + 1, 0, .int .i16 lob) ∈ _ from by simp); have c4 := hM.at_ (show (w.heap.size + 1, 1, .int .i16 lnb) ∈ _ from by simp); have c5 := hM.at_ (show (w.heap.size + 1, 2, .int .u16 atb) ∈ _ from by simp); have c6 := hM.at_ (show (w.heap.size + 2, 0, .int .i16 loc) ∈ _ from by simp); have c7 := hM.at_ (show (w.heap.size + 2, 1, .int .i16 lnc) ∈ _ from by simp); have c8 := hM.at_ (show (w.heap.size + 2, 2, .int .u16 atc) ∈ _ from by simp); have c9 := hM.at_ (show (w.heap.size + 3, 0, .int .i16 lod) ∈ _ from by simp); have c10 := hM.at_ (show (w.heap.size + 3, 1, .int .i16 lnd) ∈ _ from by simp); have c11 := hM.at_ (show (w.heap.size + 3, 2, .int .u16 atd) ∈ _ from by simp)
          refine wpOp_plain rfl rfl ?_
          simp only [updAll, Act.put, List.setIfInBounds_toArray, List.set_cons_zero, List.set_cons_succ] at hK' ⊢
          go_wp2
          exact hK'
        · refine ⟨b0, b1, true, b3, b4, b5, b6, b7, b8, b9, b10, v28, v29, _, v31, v32, v27, v33, v34, v13, v14, by rfl, ?_, f0, f1, fun _ => rfl, f3, f4, f5, f6, f7, f10, g8, hM, hz, x8⟩
          rw [← hA0]
          simp [updAll, Act.put]
      · obtain rfl : b3 = false := by simpa using hlst
        obtain rfl := Option.some.inj (show some _ = some oop from hopi)
        obtain rfl : b2 = true := by
          rcases Bool.eq_false_or_eq_true b2 with hbb | hbb
          · exact hbb
          · exfalso; subst hbb; revert hdep; simp [Region.binds]
        have e2 := f2 rfl
        subst e2
        refine step_ex (fun a' w' => a' = (updAll A0 [(28, v28), (29, v29), (30, (.agg #[.int .i16 lob, .int .i16 lnb, .int .u16 atb])), (31, v31), (32, v32), (27, v27), (33, v33), (34, v34), (13, v13), (14, v14)]).put (some 31) ((.agg #[.int .i64 B1, .int .i64 B2])) ∧ Below W.heap.size W w') ?_ ?_
        · intro K' hK'
          subst hA0
          have c0 := hM.at_ (show (w.heap.size, 0, .int .i16 loa) ∈ _ from by simp); have c1 := hM.at_ (show (w.heap.size, 1, .int .i16 lna) ∈ _ from by simp); have c2 := hM.at_ (show (w.heap.size, 2, .int .u16 ata) ∈ _ from by simp); have c3 := hM.at_ (show (w.heap.size + 1, 0, .int .i16 lob) ∈ _ from by simp); have c4 := hM.at_ (show (w.heap.size + 1, 1, .int .i16 lnb) ∈ _ from by simp); have c5 := hM.at_ (show (w.heap.size + 1, 2, .int .u16 atb) ∈ _ from by simp); have c6 := hM.at_ (show (w.heap.size + 2, 0, .int .i16 loc) ∈ _ from by simp); have c7 := hM.at_ (show (w.heap.size + 2, 1, .int .i16 lnc) ∈ _ from by simp); have c8 := hM.at_ (show (w.heap.size + 2, 2, .int .u16 atc) ∈ _ from by simp); have c9 := hM.at_ (show (w.heap.size + 3, 0, .int .i16 lod) ∈ _ from by simp); have c10 := hM.at_ (show (w.heap.size + 3, 1, .int .i16 lnd) ∈ _ from by simp); have c11 := hM.at_ (show (w.heap.size + 3, 2, .int .u16 atd) ∈ _ from by simp)
          refine wpOp_plain rfl rfl ?_
          simp only [updAll, Act.put, List.setIfInBounds_toArray, List.set_cons_zero, List.set_cons_succ] at hK' ⊢
          go_wp2_with (go_at_call 13; refine (Pb.out _).mono ?_; rintro e w1 ⟨rfl, hb1⟩)
          all_goals (first | exact ⟨rfl, hb1⟩ | exact hK' _ _ ⟨rfl, hb1⟩)
        · rintro a' w' ⟨rfl, hb1⟩
          refine ⟨b0, b1, true, true, b4, b5, b6, b7, b8, b9, b10, v28, v29, (.agg #[.int .i16 lob, .int .i16 lnb, .int .u16 atb]), _, v32, v27, v33, v34, v13, v14, by rfl, ?_, f0, f1, fun _ => rfl, fun _ => rfl, f4, f5, f6, f7, f10, g8, hM.step hb1, Nat.le_trans hz hb1.size, x8.step hb1⟩
          rw [← hA0]
          simp [updAll, Act.put]
      · obtain rfl : b4 = false := by simpa using hlst
        obtain rfl := Option.some.inj (show some _ = some oop from hopi)
        obtain rfl : b1 = true := by
          rcases Bool.eq_false_or_eq_true b1 with hbb | hbb
          · exact hbb
          · exfalso; subst hbb; revert hdep; simp [Region.binds]
        obtain rfl : b3 = true := by
          rcases Bool.eq_false_or_eq_true b3 with hbb | hbb
          · exact hbb
          · exfalso; subst hbb; revert hdep; simp [Region.binds]
        have e1 := f1 rfl
        subst e1
        have e3 := f3 rfl
        subst e3
        refine step_ex (fun a' w' => a' = (updAll A0 [(28, v28), (29, (.agg #[.int .i64 A1, .int .i64 A2])), (30, v30), (31, (.agg #[.int .i64 B1, .int .i64 B2])), (32, v32), (27, v27), (33, v33), (34, v34), (13, v13), (14, v14)]).put (some 32) ((.tuple #[.agg #[.int .i64 I1, .int .i64 I2], .int .i64 0])) ∧ Below W.heap.size W w') ?_ ?_
        · intro K' hK'
          subst hA0
          have c0 := hM.at_ (show (w.heap.size, 0, .int .i16 loa) ∈ _ from by simp); have c1 := hM.at_ (show (w.heap.size, 1, .int .i16 lna) ∈ _ from by simp); have c2 := hM.at_ (show (w.heap.size, 2, .int .u16 ata) ∈ _ from by simp); have c3 := hM.at_ (show (w.heap.size + 1, 0, .int .i16 lob) ∈ _ from by simp); have c4 := hM.at_ (show (w.heap.size + 1, 1, .int .i16 lnb) ∈ _ from by simp); have c5 := hM.at_ (show (w.heap.size + 1, 2, .int .u16 atb) ∈ _ from by simp); have c6 := hM.at_ (show (w.heap.size + 2, 0, .int .i16 loc) ∈ _ from by simp); have c7 := hM.at_ (show (w.heap.size + 2, 1, .int .i16 lnc) ∈ _ from by simp); have c8 := hM.at_ (show (w.heap.size + 2, 2, .int .u16 atc) ∈ _ from by simp); have c9 := hM.at_ (show (w.heap.size + 3, 0, .int .i16 lod) ∈ _ from by simp); have c10 := hM.at_ (show (w.heap.size + 3, 1, .int .i16 lnd) ∈ _ from by simp); have c11 := hM.at_ (show (w.heap.size + 3, 2, .int .u16 atd) ∈ _ from by simp)
          refine wpOp_plain rfl rfl ?_
          simp only [updAll, Act.put, List.setIfInBounds_toArray, List.set_cons_zero, List.set_cons_succ] at hK' ⊢
          go_wp2_with (go_at_call 15; refine (HA.out _).mono ?_; rintro e w1 ⟨rfl, hb1⟩)
          all_goals (first | exact ⟨rfl, hb1⟩ | exact hK' _ _ ⟨rfl, hb1⟩)
        · rintro a' w' ⟨rfl, hb1⟩
          refine ⟨b0, true, b2, true, true, b5, b6, b7, b8, b9, b10, v28, (.agg #[.int .i64 A1, .int .i64 A2]), v30, (.agg #[.int .i64 B1, .int .i64 B2]), _, v27, v33, v34, v13, v14, by rfl, ?_, f0, fun _ => rfl, f2, fun _ => rfl, fun _ => rfl, f5, f6, f7, f10, g8, hM.step hb1, Nat.le_trans hz hb1.size, x8.step hb1⟩
          rw [← hA0]
          simp [updAll, Act.put]
      · obtain rfl : b5 = false := by simpa using hlst
        obtain rfl := Option.some.inj (show some _ = some oop from hopi)
        obtain rfl : b4 = true := by
          rcases Bool.eq_false_or_eq_true b4 with hbb | hbb
          · exact hbb
          · exfalso; subst hbb; revert hdep; simp [Region.binds]
        have e4 := f4 rfl
        subst e4
        refine step_to (a' := (updAll A0 [(28, v28), (29, v29), (30, v30), (31, v31), (32, (.tuple #[.agg #[.int .i64 I1, .int .i64 I2], .int .i64 0])), (27, v27), (33, v33), (34, v34), (13, v13), (14, v14)]).put (some 27) ((.tuple #[.agg #[.int .i64 I1, .int .i64 I2], .int .i64 0]))) (w' := W) ?_ ?_
        · intro K' hK'
          subst hA0
          have c0 := hM.at_ (show (w.heap.size, 0, .int .i16 loa) ∈ _ from by simp); have c1 := hM.at_ (show (w.heap.size, 1, .int .i16 lna) ∈ _ from by simp); have c2 := hM.at_ (show (w.heap.size, 2, .int .u16 ata) ∈ _ from by simp); have c3 := hM.at_ (show (w.heap.size + 1, 0, .int .i16 lob) ∈ _ from by simp); have c4 := hM.at_ (show (w.heap.size + 1, 1, .int .i16 lnb) ∈ _ from by simp); have c5 := hM.at_ (show (w.heap.size + 1, 2, .int .u16 atb) ∈ _ from by simp); have c6 := hM.at_ (show (w.heap.size + 2, 0, .int .i16 loc) ∈ _ from by simp); have c7 := hM.at_ (show (w.heap.size + 2, 1, .int .i16 lnc) ∈ _ from by simp); have c8 := hM.at_ (show (w.heap.size + 2, 2, .int .u16 atc) ∈ _ from by simp); have c9 := hM.at_ (show (w.heap.size + 3, 0, .int .i16 lod) ∈ _ from by simp); have c10 := hM.at_ (show (w.heap.size + 3, 1, .int .i16 lnd) ∈ _ from by simp); have c11 := hM.at_ (show (w.heap.size + 3, 2, .int .u16 atd) ∈ _ from by simp)
          refine wpOp_plain rfl rfl ?_
          simp only [updAll, Act.put, List.setIfInBounds_toArray, List.set_cons_zero, List.set_cons_succ] at hK' ⊢
          go_wp2
          exact hK'
        · refine ⟨b0, b1, b2, b3, true, true, b6, b7, b8, b9, b10, v28, v29, v30, v31, (.tuple #[.agg #[.int .i64 I1, .int .i64 I2], .int .i64 0]), _, v33, v34, v13, v14, by rfl, ?_, f0, f1, f2, f3, fun _ => rfl, fun _ => rfl, f6, f7, f10, g8, hM, hz, x8⟩
          rw [← hA0]
          simp [updAll, Act.put]
      · obtain rfl : b6 = false := by simpa using hlst
        obtain rfl := Option.some.inj (show some _ = some oop from hopi)
        obtain rfl : b5 = true := by
          rcases Bool.eq_false_or_eq_true b5 with hbb | hbb
          · exact hbb
          · exfalso; subst hbb; revert hdep; simp [Region.binds]
        have e5 := f5 rfl
        subst e5
        refine step_to (a' := (updAll A0 [(28, v28), (29, v29), (30, v30), (31, v31), (32, v32), (27, (.tuple #[.agg #[.int .i64 I1, .int .i64 I2], .int .i64 0])), (33, v33), (34, v34), (13, v13), (14, v14)]).put (some 33) ((.agg #[.int .i64 I1, .int .i64 I2]))) (w' := W) ?_ ?_
        · intro K' hK'
          subst hA0
          have c0 := hM.at_ (show (w.heap.size, 0, .int .i16 loa) ∈ _ from by simp); have c1 := hM.at_ (show (w.heap.size, 1, .int .i16 lna) ∈ _ from by simp); have c2 := hM.at_ (show (w.heap.size, 2, .int .u16 ata) ∈ _ from by simp); have c3 := hM.at_ (show (w.heap.size + 1, 0, .int .i16 lob) ∈ _ from by simp); have c4 := hM.at_ (show (w.heap.size + 1, 1, .int .i16 lnb) ∈ _ from by simp); have c5 := hM.at_ (show (w.heap.size + 1, 2, .int .u16 atb) ∈ _ from by simp); have c6 := hM.at_ (show (w.heap.size + 2, 0, .int .i16 loc) ∈ _ from by simp); have c7 := hM.at_ (show (w.heap.size + 2, 1, .int .i16 lnc) ∈ _ from by simp); have c8 := hM.at_ (show (w.heap.size + 2, 2, .int .u16 atc) ∈ _ from by simp); have c9 := hM.at_ (show (w.heap.size + 3, 0, .int .i16 lod) ∈ _ from by simp); have c10 := hM.at_ (show (w.heap.size + 3, 1, .int .i16 lnd) ∈ _ from by simp); have c11 := hM.at_ (show (w.heap.size + 3, 2, .int .u16 atd) ∈ _ from by simp)
          refine wpOp_plain rfl rfl ?_
          simp only [updAll, Act.put, List.setIfInBounds_toArray, List.set_cons_zero, List.set_cons_succ] at hK' ⊢
          go_wp2
          exact hK'
        · refine ⟨b0, b1, b2, b3, b4, true, true, b7, b8, b9, b10, v28, v29, v30, v31, v32, (.tuple #[.agg #[.int .i64 I1, .int .i64 I2], .int .i64 0]), _, v34, v13, v14, by rfl, ?_, f0, f1, f2, f3, f4, fun _ => rfl, fun _ => rfl, f7, f10, g8, hM, hz, x8⟩
          rw [← hA0]
          simp [updAll, Act.put]
      · obtain rfl : b7 = false := by simpa using hlst
        obtain rfl := Option.some.inj (show some _ = some oop from hopi)
        obtain rfl : b5 = true := by
          rcases Bool.eq_false_or_eq_true b5 with hbb | hbb
          · exact hbb
          · exfalso; subst hbb; revert hdep; simp [Region.binds]
        have e5 := f5 rfl
        subst e5
        refine step_to (a' := (updAll A0 [(28, v28), (29, v29), (30, v30), (31, v31), (32, v32), (27, (.tuple #[.agg #[.int .i64 I1, .int .i64 I2], .int .i64 0])), (33, v33), (34, v34), (13, v13), (14, v14)]).put (some 34) ((.int .i64 0))) (w' := W) ?_ ?_
        · intro K' hK'
          subst hA0
          have c0 := hM.at_ (show (w.heap.size, 0, .int .i16 loa) ∈ _ from by simp); have c1 := hM.at_ (show (w.heap.size, 1, .int .i16 lna) ∈ _ from by simp); have c2 := hM.at_ (show (w.heap.size, 2, .int .u16 ata) ∈ _ from by simp); have c3 := hM.at_ (show (w.heap.size + 1, 0, .int .i16 lob) ∈ _ from by simp); have c4 := hM.at_ (show (w.heap.size + 1, 1, .int .i16 lnb) ∈ _ from by simp); have c5 := hM.at_ (show (w.heap.size + 1, 2, .int .u16 atb) ∈ _ from by simp); have c6 := hM.at_ (show (w.heap.size + 2, 0, .int .i16 loc) ∈ _ from by simp); have c7 := hM.at_ (show (w.heap.size + 2, 1, .int .i16 lnc) ∈ _ from by simp); have c8 := hM.at_ (show (w.heap.size + 2, 2, .int .u16 atc) ∈ _ from by simp); have c9 := hM.at_ (show (w.heap.size + 3, 0, .int .i16 lod) ∈ _ from by simp); have c10 := hM.at_ (show (w.heap.size + 3, 1, .int .i16 lnd) ∈ _ from by simp); have c11 := hM.at_ (show (w.heap.size + 3, 2, .int .u16 atd) ∈ _ from by simp)
          refine wpOp_plain rfl rfl ?_
          simp only [updAll, Act.put, List.setIfInBounds_toArray, List.set_cons_zero, List.set_cons_succ] at hK' ⊢
          go_wp2
          exact hK'
        · refine ⟨b0, b1, b2, b3, b4, true, b6, true, b8, b9, b10, v28, v29, v30, v31, v32, (.tuple #[.agg #[.int .i64 I1, .int .i64 I2], .int .i64 0]), v33, _, v13, v14, by rfl, ?_, f0, f1, f2, f3, f4, fun _ => rfl, f6, fun _ => rfl, f10, g8, hM, hz, x8⟩
          rw [← hA0]
          simp [updAll, Act.put]
      · obtain rfl : b8 = false := by simpa using hlst
        obtain rfl := Option.some.inj (show some _ = some oop from hopi)
        have e_st := g8 rfl
        subst e_st
        refine step_to (a' := (updAll A0 [(28, v28), (29, v29), (30, v30), (31, v31), (32, v32), (27, v27), (33, v33), (34, v34), (13, v13), (14, v14)]).put (some 13) (.pointer (some ⟨W.heap.size, 0, none⟩))) (w' := W.alloc (.cells #[.int .i64 0, .int .i64 0] 27)) ?_ ?_
        · intro K' hK'
          subst hA0
          refine wpOp_plain rfl rfl ?_
          simp only [updAll, Act.put, List.setIfInBounds_toArray, List.set_cons_zero, List.set_cons_succ] at hK' ⊢
          go_wp2
          exact hK'
        · refine ⟨b0, b1, b2, b3, b4, b5, b6, b7, true, false, b10, v28, v29, v30, v31, v32, v27, v33, v34, _, v14, by rfl, ?_, f0, f1, f2, f3, f4, f5, f6, f7, f10, by simp, hM.alloc, (by first | omega | (simp; omega) | simp), BoxF.new hz⟩
          rw [← hA0]
          simp [updAll, Act.put]
      · obtain rfl : b9 = false := by simpa using hlst
        obtain rfl := Option.some.inj (show some _ = some oop from hopi)
        obtain rfl : b8 = true := by
          rcases Bool.eq_false_or_eq_true b8 with hbb | hbb
          · exact hbb
          · exfalso; subst hbb; revert hdep; simp [Region.binds]
        obtain rfl : b6 = true := by
          rcases Bool.eq_false_or_eq_true b6 with hbb | hbb
          · exact hbb
          · exfalso; subst hbb; revert hdep; simp [Region.binds]
        have e6 := f6 rfl
        subst e6
        obtain ⟨r, hr1, hr2, hr3⟩ := x8 rfl
        subst hr1
        simp only [Bool.false_eq_true, if_false] at hr3
        refine step_to (a' := updAll A0 [(28, v28), (29, v29), (30, v30), (31, v31), (32, v32), (27, v27), (33, (.agg #[.int .i64 I1, .int .i64 I2])), (34, v34), (13, (.pointer (some ⟨r, 0, none⟩))), (14, v14)]) (w' := ((W.setCell ⟨r, 0, none⟩ (.int .i64 I1)).setCell ⟨r, 1, none⟩ (.int .i64 I2))) ?_ ?_
        · intro K' hK'
          subst hA0
          have q0 := blk_cell (o := 0) hr3 rfl
          have p0 := blk_free (o := 0) hr3
          have q1 := blk_cell (o := 1) hr3 rfl
          have p1 := blk_free (o := 1) hr3
          refine wpOp_plain rfl rfl ?_
          simp only [updAll, Act.put, List.setIfInBounds_toArray, List.set_cons_zero, List.set_cons_succ] at hK' ⊢
          go_wp2
          exact hK'
        · exact ⟨b0, b1, b2, b3, b4, b5, true, b7, true, true, b10, v28, v29, v30, v31, v32, v27, (.agg #[.int .i64 I1, .int .i64 I2]), v34, (.pointer (some ⟨r, 0, none⟩)), v14, by rfl, rfl, f0, f1, f2, f3, f4, f5, fun _ => rfl, f7, f10, by simp, ((hM.set (by omega)).set (by omega)), by simpa using hz, fun _ => ⟨r, rfl, hr2, (blk_set (blk_set hr3))⟩⟩
      · obtain rfl : b10 = false := by simpa using hlst
        obtain rfl := Option.some.inj (show some _ = some oop from hopi)
        obtain rfl : b7 = true := by
          rcases Bool.eq_false_or_eq_true b7 with hbb | hbb
          · exact hbb
          · exfalso; subst hbb; revert hdep; simp [Region.binds]
        have e7 := f7 rfl
        subst e7
        refine step_to (a' := (updAll A0 [(28, v28), (29, v29), (30, v30), (31, v31), (32, v32), (27, v27), (33, v33), (34, (.int .i64 0)), (13, v13), (14, v14)]).put (some 14) ((.int .i64 0))) (w' := W) ?_ ?_
        · intro K' hK'
          subst hA0
          have c0 := hM.at_ (show (w.heap.size, 0, .int .i16 loa) ∈ _ from by simp); have c1 := hM.at_ (show (w.heap.size, 1, .int .i16 lna) ∈ _ from by simp); have c2 := hM.at_ (show (w.heap.size, 2, .int .u16 ata) ∈ _ from by simp); have c3 := hM.at_ (show (w.heap.size + 1, 0, .int .i16 lob) ∈ _ from by simp); have c4 := hM.at_ (show (w.heap.size + 1, 1, .int .i16 lnb) ∈ _ from by simp); have c5 := hM.at_ (show (w.heap.size + 1, 2, .int .u16 atb) ∈ _ from by simp); have c6 := hM.at_ (show (w.heap.size + 2, 0, .int .i16 loc) ∈ _ from by simp); have c7 := hM.at_ (show (w.heap.size + 2, 1, .int .i16 lnc) ∈ _ from by simp); have c8 := hM.at_ (show (w.heap.size + 2, 2, .int .u16 atc) ∈ _ from by simp); have c9 := hM.at_ (show (w.heap.size + 3, 0, .int .i16 lod) ∈ _ from by simp); have c10 := hM.at_ (show (w.heap.size + 3, 1, .int .i16 lnd) ∈ _ from by simp); have c11 := hM.at_ (show (w.heap.size + 3, 2, .int .u16 atd) ∈ _ from by simp)
          refine wpOp_plain rfl rfl ?_
          simp only [updAll, Act.put, List.setIfInBounds_toArray, List.set_cons_zero, List.set_cons_succ] at hK' ⊢
          go_wp2
          exact hK'
        · refine ⟨b0, b1, b2, b3, b4, b5, b6, true, b8, b9, true, v28, v29, v30, v31, v32, v27, v33, (.int .i64 0), v13, _, by rfl, ?_, f0, f1, f2, f3, f4, f5, f6, fun _ => rfl, fun _ => rfl, g8, hM, hz, x8⟩
          rw [← hA0]
          simp [updAll, Act.put]
    case done =>
      rintro l a W ⟨b0, b1, b2, b3, b4, b5, b6, b7, b8, b9, b10, v28, v29, v30, v31, v32, v27, v33, v34, v13, v14, rfl, rfl, f0, f1, f2, f3, f4, f5, f6, f7, f10, g8, hM, hz, x8⟩ hall
      obtain rfl : b0 = true := by simpa using hall 0 (by decide)
      obtain rfl : b1 = true := by simpa using hall 1 (by decide)
      obtain rfl : b2 = true := by simpa using hall 2 (by decide)
      obtain rfl : b3 = true := by simpa using hall 3 (by decide)
      obtain rfl : b4 = true := by simpa using hall 4 (by decide)
      obtain rfl : b5 = true := by simpa using hall 5 (by decide)
      obtain rfl : b6 = true := by simpa using hall 6 (by decide)
      obtain rfl : b7 = true := by simpa using hall 7 (by decide)
      obtain rfl : b8 = true := by simpa using hall 8 (by decide)
      obtain rfl : b9 = true := by simpa using hall 9 (by decide)
      obtain rfl : b10 = true := by simpa using hall 10 (by decide)
      have e0 := f0 rfl
      subst e0
      have e1 := f1 rfl
      subst e1
      have e2 := f2 rfl
      subst e2
      have e3 := f3 rfl
      subst e3
      have e4 := f4 rfl
      subst e4
      have e5 := f5 rfl
      subst e5
      have e6 := f6 rfl
      subst e6
      have e7 := f7 rfl
      subst e7
      have e10 := f10 rfl
      subst e10
      obtain ⟨r8, e8, k8, m8⟩ := x8 rfl
      subst e8
      simp only [if_true] at m8
      subst hA0
      simp only [updAll, Act.put, List.setIfInBounds_toArray, List.set_cons_zero, List.set_cons_succ]
      go_wp2_with fail
      go_meet
      exact ⟨r8, rfl, rfl, Cs.cons (Cs.cons hM.grow (blk_cell m8 rfl) (blk_lt m8)) (blk_cell m8 rfl) (blk_lt m8)⟩
  case rest =>
    obtain ⟨r, rfl, rfl, hM⟩ := hcut
    clear HS HA Pa
    have HS := Lib.hid hM
    clear hM
    go_upto_region 2 with fail
    go_cut [15, 16] (fun sa sb W => ∃ p : Nat, sa = .pointer (some ⟨p, 0, none⟩) ∧ sb = .int .i64 0 ∧ Cs w W.heap.size [(p, 0, .int .i64 P1), (p, 1, .int .i64 P2), (r, 0, .int .i64 I1), (r, 1, .int .i64 I2), (w.heap.size, 0, .int .i16 loa), (w.heap.size, 1, .int .i16 lna), (w.heap.size, 2, .int .u16 ata), (w.heap.size + 1, 0, .int .i16 lob), (w.heap.size + 1, 1, .int .i16 lnb), (w.heap.size + 1, 2, .int .u16 atb), (w.heap.size + 2, 0, .int .i16 loc), (w.heap.size + 2, 1, .int .i16 lnc), (w.heap.size + 2, 2, .int .u16 atc), (w.heap.size + 3, 0, .int .i16 lod), (w.heap.size + 3, 1, .int .i16 lnd), (w.heap.size + 3, 2, .int .u16 atd)] W)
    case first =>
      generalize hA0 : (Act.mk _ _) = A0
      refine region_inv (by kernel_rfl) (by kernel_rfl) (fun l a W => ∃ (b0 b1 b2 b3 b4 b5 b6 b7 b8 b9 : Bool) (v36 v37 v38 v39 v35 v40 v41 v15 v16 : Value), l = #[b0, b1, b2, b3, b4, b5, b6, b7, b8, b9] ∧ a = updAll A0 [(36, v36), (37, v37), (38, v38), (39, v39), (35, v35), (40, v40), (41, v41), (15, v15), (16, v16)] ∧ (b0 = true → v36 = (.agg #[.int .i64 I1, .int .i64 I2])) ∧ (b1 = true → v37 = (.agg #[.int .i16 loc, .int .i16 lnc, .int .u16 atc])) ∧ (b2 = true → v38 = (.agg #[.int .i64 C1, .int .i64 C2])) ∧ (b3 = true → v39 = (.tuple #[.agg #[.int .i64 P1, .int .i64 P2], .int .i64 0])) ∧ (b4 = true → v35 = (.tuple #[.agg #[.int .i64 P1, .int .i64 P2], .int .i64 0])) ∧ (b5 = true → v40 = (.agg #[.int .i64 P1, .int .i64 P2])) ∧ (b6 = true → v41 = (.int .i64 0)) ∧ (b9 = true → v16 = (.int .i64 0)) ∧ (b7 = false → b8 = false) ∧ Cs w wc.heap.size [(r, 0, .int .i64 I1), (r, 1, .int .i64 I2), (w.heap.size, 0, .int .i16 loa), (w.heap.size, 1, .int .i16 lna), (w.heap.size, 2, .int .u16 ata), (w.heap.size + 1, 0, .int .i16 lob), (w.heap.size + 1, 1, .int .i16 lnb), (w.heap.size + 1, 2, .int .u16 atb), (w.heap.size + 2, 0, .int .i16 loc), (w.heap.size + 2, 1, .int .i16 lnc), (w.heap.size + 2, 2, .int .u16 atc), (w.heap.size + 3, 0, .int .i16 lod), (w.heap.size + 3, 1, .int .i16 lnd), (w.heap.size + 3, 2, .int .u16 atd)] W ∧ wc.heap.size ≤ W.heap.size ∧ BoxF b7 b8 v15 (wc.heap.size) #[.int .i64 0, .int .i64 0] #[.int .i64 P1, .int .i64 P2] 27 W) ?h0 ?hsz ?step ?done
      case h0 =>
        refine ⟨false, false, false, false, false, false, false, false, false, false, A0.tmps.getD 36 undef, A0.tmps.getD 37 undef, A0.tmps.getD 38 undef, A0.tmps.getD 39 undef, A0.tmps.getD 35 undef, A0.tmps.getD 40 undef, A0.tmps.getD 41 undef, A0.tmps.getD 15 undef, A0.tmps.getD 16 undef, by rfl, ?_, by simp, by simp, by simp, by simp, by simp, by simp, by simp, by simp, by simp, HS.out.drew, by simp, BoxF.no⟩
        rw [← hA0]
        simp [updAll, Act.put]
      case hsz =>
        rintro l a W ⟨b0, b1, b2, b3, b4, b5, b6, b7, b8, b9, v36, v37, v38, v39, v35, v40, v41, v15, v16, rfl, -⟩
        rfl
      case step =>
        intro iop oop hopi lst act W hInv hlst hdep
        obtain ⟨b0, b1, b2, b3, b4, b5, b6, b7, b8, b9, v36, v37, v38, v39, v35, v40, v41, v15, v16, rfl, rfl, f0, f1, f2, f3, f4, f5, f6, f9, g7, hM, hz, x7⟩ := hInv
        have hi8 : iop < 10 := (Array.getElem?_eq_some_iff.1 hopi).1
        have hi9 : iop = 0 ∨ iop = 1 ∨ iop = 2 ∨ iop = 3 ∨ iop = 4 ∨ iop = 5 ∨ iop = 6 ∨ iop = 7 ∨ iop = 8 ∨ iop = 9 := by omega
        rcases hi9 with rfl | rfl | rfl | rfl | rfl | rfl | rfl | rfl | rfl | rfl
        · obtain rfl : b0 = false := by simpa using hlst
          obtain rfl := Option.some.inj (show some _ = some oop from hopi)
          refine step_to (a' := (updAll A0 [(36, v36), (37, v37), (38, v38), (39, v39), (35, v35), (40, v40), (41, v41), (15, v15), (16, v16)]).put (some 36) ((.agg #[.int .i64 I1, .int .i64 I2]))) (w' := W) ?_ ?_
          · intro K' hK'
            subst hA0
            have c0 := hM.at_ (show (r, 0, .int .i64 I1) ∈ _ from by simp); have c1 := hM.at_ (show (r, 1, .int .i64 I2) ∈ _ from by simp); have c2 := hM.at_ (show (w.heap.size, 0, .int .i16 loa) ∈ _ from by simp); have c3 := hM.at_ (show (w.heap.size, 1, .int .i16 lna) ∈ _ from by simp); have c4 := hM.at_ (show (w.heap.size, 2, .int .u16 ata) ∈ _ from by simp); have c5 := hM.at_ (show (w.heap.size + 1, 0, .int .i16 lob) ∈ _ from by simp); have c6 := hM.at_ (show (w.heap.size + 1, 1, .int .i16 lnb) ∈ _ from by simp); have c7 := hM.at_ (show (w.heap.size + 1, 2, .int .u16 atb) ∈ _ from by simp); have c8 := hM.at_ (show (w.heap.size + 2, 0, .int .i16 loc) ∈ _ from by simp); have c9 := hM.at_ (show (w.heap.size + 2, 1, .int .i16 lnc) ∈ _ from by simp); have c10 := hM.at_ (show (w.heap.size + 2, 2, .int .u16 atc) ∈ _ from by simp); have c11 := hM.at_ (show (w.heap.size + 3, 0, .int .i16 lod) ∈ _ from by simp); have c12 := hM.at_ (show (w.heap.size + 3, 1, .int .i16 lnd) ∈ _ from by simp); have c13 := hM.at_ (show (w.heap.size + 3, 2, .int .u16 atd) ∈ _ from by simp)
            refine wpOp_plain rfl rfl ?_
            simp only [updAll, Act.put, List.setIfInBounds_toArray, List.set_cons_zero, List.set_cons_succ] at hK' ⊢
            go_wp2
            exact hK'
          · refine ⟨true, b1, b2, b3, b4, b5, b6, b7, b8, b9, _, v37, v38, v39, v35, v40, v41, v15, v16, by rfl, ?_, fun _ => rfl, f1, f2, f3, f4, f5, f6, f9, g7, hM, hz, x7⟩
            rw [← hA0]
            simp [updAll, Act.put]
        · obtain rfl : b1 = false := by simpa using hlst
          obtain rfl := Option.some.inj (show some _ = some oop from hopi)
          refine step_to (a' := (updAll A0 [(36, v36), (37, v37), (38, v38), (39, v39), (35, v35), (40, v40), (41, v41), (15, v15), (16, v16)]).put (some 37) ((.agg #[.int .i16 loc, .int .i16 lnc, .int .u16 atc]))) (w' := W) ?_ ?_
          · intro K' hK'
            subst hA0
            have c0 := hM.at_ (show (r, 0, .int .i64 I1) ∈ _ from by simp); have c1 := hM.at_ (show (r, 1, .int .i64 I2) ∈ _ from by simp); have c2 := hM.at_ (show (w.heap.size, 0, .int .i16 loa) ∈ _ from by simp); have c3 := hM.at_ (show (w.heap.size, 1, .int .i16 lna) ∈ _ from by simp); have c4 := hM.at_ (show (w.heap.size, 2, .int .u16 ata) ∈ _ from by simp); have c5 := hM.at_ (show (w.heap.size + 1, 0, .int .i16 lob) ∈ _ from by simp); have c6 := hM.at_ (show (w.heap.size + 1, 1, .int .i16 lnb) ∈ _ from by simp); have c7 := hM.at_ (show (w.heap.size + 1, 2, .int .u16 atb) ∈ _ from by simp); have c8 := hM.at_ (show (w.heap.size + 2, 0, .int .i16 loc) ∈ _ from by simp); have c9 := hM.at_ (show (w.heap.size + 2, 1, .int .i16 lnc) ∈ _ from by simp); have c10 := hM.at_ (show (w.heap.size + 2, 2, .int .u16 atc) ∈ _ from by simp); have c11 := hM.at_ (show (w.heap.size + 3, 0, .int .i16 lod) ∈ _ from by simp); have c12 := hM.at_ (show (w.heap.size + 3, 1, .int .i16 lnd) ∈ _ from by simp); have c13 := hM.at_ (show (w.heap.size + 3, 2, .int .u16 atd) ∈ _ from by simp)
            refine wpOp_plain rfl rfl ?_
            simp only [updAll, Act.put, List.setIfInBounds_toArray, List.set_cons_zero, List.set_cons_succ] at hK' ⊢
            go_wp2
            exact hK'
          · refine ⟨b0, true, b2, b3, b4, b5, b6, b7, b8, b9, v36, _, v38, v39, v35, v40, v41, v15, v16, by rfl, ?_, f0, fun _ => rfl, f2, f3, f4, f5, f6, f9, g7, hM, hz, x7⟩
            rw [← hA0]
            simp [updAll, Act.put]
        · obtain rfl : b2 = false := by simpa using hlst
          obtain rfl := Option.some.inj (show some _ = some oop from hopi)
          obtain rfl : b1 = true := by
            rcases Bool.eq_false_or_eq_true b1 with hbb | hbb
            · exact hbb
            · exfalso; subst hbb; revert hdep; simp [Region.binds]
          have e1 := f1 rfl
          subst e1
          refine step_ex (fun a' w' => a' = (updAll A0 [(36, v36), (37, (.agg #[.int .i16 loc, .int .i16 lnc, .int .u16 atc])), (38, v38), (39, v39), (35, v35), (40, v40), (41, v41), (15, v15), (16, v16)]).put (some 38) ((.agg #[.int .i64 C1, .int .i64 C2])) ∧ Below W.heap.size W w') ?_ ?_
          · intro K' hK'
            subst hA0
            have c0 := hM.at_ (show (r, 0, .int .i64 I1) ∈ _ from by simp); have c1 := hM.at_ (show (r, 1, .int .i64 I2) ∈ _ from by simp); have c2 := hM.at_ (show (w.heap.size, 0, .int .i16 loa) ∈ _ from by simp); have c3 := hM.at_ (show (w.heap.size, 1, .int .i16 lna) ∈ _ from by simp); have c4 := hM.at_ (show (w.heap.size, 2, .int .u16 ata) ∈ _ from by simp); have c5 := hM.at_ (show (w.heap.size + 1, 0, .int .i16 lob) ∈ _ from by simp); have c6 := hM.at_ (show (w.heap.size + 1, 1, .int .i16 lnb) ∈ _ from by simp); have c7 := hM.at_ (show (w.heap.size + 1, 2, .int .u16 atb) ∈ _ from by simp); have c8 := hM.at_ (show (w.heap.size + 2, 0, .int .i16 loc) ∈ _ from by simp); have c9 := hM.at_ (show (w.heap.size + 2, 1, .int .i16 lnc) ∈ _ from by simp); have c10 := hM.at_ (show (w.heap.size + 2, 2, .int .u16 atc) ∈ _ from by simp); have c11 := hM.at_ (show (w.heap.size + 3, 0, .int .i16 lod) ∈ _ from by simp); have c12 := hM.at_ (show (w.heap.size + 3, 1, .int .i16 lnd) ∈ _ from by simp); have c13 := hM.at_ (show (w.heap.size + 3, 2, .int .u16 atd) ∈ _ from by simp)
            refine wpOp_plain rfl rfl ?_
            simp only [updAll, Act.put, List.setIfInBounds_toArray, List.set_cons_zero, List.set_cons_succ] at hK' ⊢
            go_wp2_with (go_at_call 13; refine (Pc.out _).mono ?_; rintro e w1 ⟨rfl, hb1⟩)
            all_goals (first | exact ⟨rfl, hb1⟩ | exact hK' _ _ ⟨rfl, hb1⟩)
          · rintro a' w' ⟨rfl, hb1⟩
            refine ⟨b0, true, true, b3, b4, b5, b6, b7, b8, b9, v36, (.agg #[.int .i16 loc, .int .i16 lnc, .int .u16 atc]), _, v39, v35, v40, v41, v15, v16, by rfl, ?_, f0, fun _ => rfl, fun _ => rfl, f3, f4, f5, f6, f9, g7, hM.step hb1, Nat.le_trans hz hb1.size, x7.step hb1⟩
            rw [← hA0]
            simp [updAll, Act.put]
        · obtain rfl : b3 = false := by simpa using hlst
          obtain rfl := Option.some.inj (show some _ = some oop from hopi)
          obtain rfl : b0 = true := by
            rcases Bool.eq_false_or_eq_true b0 with hbb | hbb
            · exact hbb
            · exfalso; subst hbb; revert hdep; simp [Region.binds]
          obtain rfl : b2 = true := by
            rcases Bool.eq_false_or_eq_true b2 with hbb | hbb
            · exact hbb
            · exfalso; subst hbb; revert hdep; simp [Region.binds]
          have e0 := f0 rfl
          subst e0
          have e2 := f2 rfl
          subst e2
          refine step_ex (fun a' w' => a' = (updAll A0 [(36, (.agg #[.int .i64 I1, .int .i64 I2])), (37, v37), (38, (.agg #[.int .i64 C1, .int .i64 C2])), (39, v39), (35, v35), (40, v40), (41, v41), (15, v15), (16, v16)]).put (some 39) ((.tuple #[.agg #[.int .i64 P1, .int .i64 P2], .int .i64 0])) ∧ Below W.heap.size W w') ?_ ?_
          · intro K' hK'
            subst hA0
            have c0 := hM.at_ (show (r, 0, .int .i64 I1) ∈ _ from by simp); have c1 := hM.at_ (show (r, 1, .int .i64 I2) ∈ _ from by simp); have c2 := hM.at_ (show (w.heap.size, 0, .int .i16 loa) ∈ _ from by simp); have c3 := hM.at_ (show (w.heap.size, 1, .int .i16 lna) ∈ _ from by simp); have c4 := hM.at_ (show (w.heap.size, 2, .int .u16 ata) ∈ _ from by simp); have c5 := hM.at_ (show (w.heap.size + 1, 0, .int .i16 lob) ∈ _ from by simp); have c6 := hM.at_ (show (w.heap.size + 1, 1, .int .i16 lnb) ∈ _ from by simp); have c7 := hM.at_ (show (w.heap.size + 1, 2, .int .u16 atb) ∈ _ from by simp); have c8 := hM.at_ (show (w.heap.size + 2, 0, .int .i16 loc) ∈ _ from by simp); have c9 := hM.at_ (show (w.heap.size + 2, 1, .int .i16 lnc) ∈ _ from by simp); have c10 := hM.at_ (show (w.heap.size + 2, 2, .int .u16 atc) ∈ _ from by simp); have c11 := hM.at_ (show (w.heap.size + 3, 0, .int .i16 lod) ∈ _ from by simp); have c12 := hM.at_ (show (w.heap.size + 3, 1, .int .i16 lnd) ∈ _ from by simp); have c13 := hM.at_ (show (w.heap.size + 3, 2, .int .u16 atd) ∈ _ from by simp)
            refine wpOp_plain rfl rfl ?_
            simp only [updAll, Act.put, List.setIfInBounds_toArray, List.set_cons_zero, List.set_cons_succ] at hK' ⊢
            go_wp2_with (go_at_call 15; refine (HB.out _).mono ?_; rintro e w1 ⟨rfl, hb1⟩)
            all_goals (first | exact ⟨rfl, hb1⟩ | exact hK' _ _ ⟨rfl, hb1⟩)
          · rintro a' w' ⟨rfl, hb1⟩
            refine ⟨true, b1, true, true, b4, b5, b6, b7, b8, b9, (.agg #[.int .i64 I1, .int .i64 I2]), v37, (.agg #[.int .i64 C1, .int .i64 C2]), _, v35, v40, v41, v15, v16, by rfl, ?_, fun _ => rfl, f1, fun _ => rfl, fun _ => rfl, f4, f5, f6, f9, g7, hM.step hb1, Nat.le_trans hz hb1.size, x7.step hb1⟩
            rw [← hA0]
            simp [updAll, Act.put]
        · obtain rfl : b4 = false := by simpa using hlst
          obtain rfl := Option.some.inj (show some _ = some oop from hopi)
          obtain rfl : b3 = true := by
            rcases Bool.eq_false_or_eq_true b3 with hbb | hbb
            · exact hbb
            · exfalso; subst hbb; revert hdep; simp [Region.binds]
          have e3 := f3 rfl
          subst e3
          refine step_to (a' := (updAll A0 [(36, v36), (37, v37), (38, v38), (39, (.tuple #[.agg #[.int .i64 P1, .int .i64 P2], .int .i64 0])), (35, v35), (40, v40), (41, v41), (15, v15), (16, v16)]).put (some 35) ((.tuple #[.agg #[.int .i64 P1, .int .i64 P2], .int .i64 0]))) (w' := W) ?_ ?_
          · intro K' hK'
            subst hA0
            have c0 := hM.at_ (show (r, 0, .int .i64 I1) ∈ _ from by simp); have c1 := hM.at_ (show (r, 1, .int .i64 I2) ∈ _ from by simp); have c2 := hM.at_ (show (w.heap.size, 0, .int .i16 loa) ∈ _ from by simp); have c3 := hM.at_ (show (w.heap.size, 1, .int .i16 lna) ∈ _ from by simp); have c4 := hM.at_ (show (w.heap.size, 2, .int .u16 ata) ∈ _ from by simp); have c5 := hM.at_ (show (w.heap.size + 1, 0, .int .i16 lob) ∈ _ from by simp); have c6 := hM.at_ (show (w.heap.size + 1, 1, .int .i16 lnb) ∈ _ from by simp); have c7 := hM.at_ (show (w.heap.size + 1, 2, .int .u16 atb) ∈ _ from by simp); have c8 := hM.at_ (show (w.heap.size + 2, 0, .int .i16 loc) ∈ _ from by simp); have c9 := hM.at_ (show (w.heap.size + 2, 1, .int .i16 lnc) ∈ _ from by simp); have c10 := hM.at_ (show (w.heap.size + 2, 2, .int .u16 atc) ∈ _ from by simp); have c11 := hM.at_ (show (w.heap.size + 3, 0, .int .i16 lod) ∈ _ from by simp); have c12 := hM.at_ (show (w.heap.size + 3, 1, .int .i16 lnd) ∈ _ from by simp); have c13 := hM.at_ (show (w.heap.size + 3, 2, .int .u16 atd) ∈ _ from by simp)
            refine wpOp_plain rfl rfl ?_
            simp only [updAll, Act.put, List.setIfInBounds_toArray, List.set_cons_zero, List.set_cons_succ] at hK' ⊢
            go_wp2
            exact hK'
          · refine ⟨b0, b1, b2, true, true, b5, b6, b7, b8, b9, v36, v37, v38, (.tuple #[.agg #[.int .i64 P1, .int .i64 P2], .int .i64 0]), _, v40, v41, v15, v16, by rfl, ?_, f0, f1, f2, fun _ => rfl, fun _ => rfl, f5, f6, f9, g7, hM, hz, x7⟩
            rw [← hA0]
            simp [updAll, Act.put]
        · obtain rfl : b5 = false := by simpa using hlst
          obtain rfl := Option.some.inj (show some _ = some oop from hopi)
          obtain rfl : b4 = true := by
            rcases Bool.eq_false_or_eq_true b4 with hbb | hbb
            · exact hbb
            · exfalso; subst hbb; revert hdep; simp [Region.binds]
          have e4 := f4 rfl
          subst e4
          refine step_to (a' := (updAll A0 [(36, v36), (37, v37), (38, v38), (39, v39), (35, (.tuple #[.agg #[.int .i64 P1, .int .i64 P2], .int .i64 0])), (40, v40), (41, v41), (15, v15), (16, v16)]).put (some 40) ((.agg #[.int .i64 P1, .int .i64 P2]))) (w' := W) ?_ ?_
          · intro K' hK'
            subst hA0
            have c0 := hM.at_ (show (r, 0, .int .i64 I1) ∈ _ from by simp); have c1 := hM.at_ (show (r, 1, .int .i64 I2) ∈ _ from by simp); have c2 := hM.at_ (show (w.heap.size, 0, .int .i16 loa) ∈ _ from by simp); have c3 := hM.at_ (show (w.heap.size, 1, .int .i16 lna) ∈ _ from by simp); have c4 := hM.at_ (show (w.heap.size, 2, .int .u16 ata) ∈ _ from by simp); have c5 := hM.at_ (show (w.heap.size + 1, 0, .int .i16 lob) ∈ _ from by simp); have c6 := hM.at_ (show (w.heap.size + 1, 1, .int .i16 lnb) ∈ _ from by simp); have c7 := hM.at_ (show (w.heap.size + 1, 2, .int .u16 atb) ∈ _ from by simp); have c8 := hM.at_ (show (w.heap.size + 2, 0, .int .i16 loc) ∈ _ from by simp); have c9 := hM.at_ (show (w.heap.size + 2, 1, .int .i16 lnc) ∈ _ from by simp); have c10 := hM.at_ (show (w.heap.size + 2, 2, .int .u16 atc) ∈ _ from by simp); have c11 := hM.at_ (show (w.heap.size + 3, 0, .int .i16 lod) ∈ _ from by simp); have c12 := hM.at_ (show (w.heap.size + 3, 1, .int .i16 lnd) ∈ _ from by simp); have c13 := hM.at_ (show (w.heap.size + 3, 2, .int .u16 atd) ∈ _ from by simp)
            refine wpOp_plain rfl rfl ?_
            simp only [updAll, Act.put, List.setIfInBounds_toArray, List.set_cons_zero, List.set_cons_succ] at hK' ⊢
            go_wp2
            exact hK'
          · refine ⟨b0, b1, b2, b3, true, true, b6, b7, b8, b9, v36, v37, v38, v39, (.tuple #[.agg #[.int .i64 P1, .int .i64 P2], .int .i64 0]), _, v41, v15, v16, by rfl, ?_, f0, f1, f2, f3, fun _ => rfl, fun _ => rfl, f6, f9, g7, hM, hz, x7⟩
            rw [← hA0]
            simp [updAll, Act.put]
        · obtain rfl : b6 = false := by simpa using hlst
          obtain rfl := Option.some.inj (show some _ = some oop from hopi)
          obtain rfl : b4 = true := by
            rcases Bool.eq_false_or_eq_true b4 with hbb | hbb
            · exact hbb
            · exfalso; subst hbb; revert hdep; simp [Region.binds]
          have e4 := f4 rfl
          subst e4
          refine step_to (a' := (updAll A0 [(36, v36), (37, v37), (38, v38), (39, v39), (35, (.tuple #[.agg #[.int .i64 P1, .int .i64 P2], .int .i64 0])), (40, v40), (41, v41), (15, v15), (16, v16)]).put (some 41) ((.int .i64 0))) (w' := W) ?_ ?_
          · intro K' hK'
            subst hA0
            have c0 := hM.at_ (show (r, 0, .int .i64 I1) ∈ _ from by simp); have c1 := hM.at_ (show (r, 1, .int .i64 I2) ∈ _ from by simp); have c2 := hM.at_ (show (w.heap.size, 0, .int .i16 loa) ∈ _ from by simp); have c3 := hM.at_ (show (w.heap.size, 1, .int .i16 lna) ∈ _ from by simp); have c4 := hM.at_ (show (w.heap.size, 2, .int .u16 ata) ∈ _ from by simp); have c5 := hM.at_ (show (w.heap.size + 1, 0, .int .i16 lob) ∈ _ from by simp); have c6 := hM.at_ (show (w.heap.size + 1, 1, .int .i16 lnb) ∈ _ from by simp); have c7 := hM.at_ (show (w.heap.size + 1, 2, .int .u16 atb) ∈ _ from by simp); have c8 := hM.at_ (show (w.heap.size + 2, 0, .int .i16 loc) ∈ _ from by simp); have c9 := hM.at_ (show (w.heap.size + 2, 1, .int .i16 lnc) ∈ _ from by simp); have c10 := hM.at_ (show (w.heap.size + 2, 2, .int .u16 atc) ∈ _ from by simp); have c11 := hM.at_ (show (w.heap.size + 3, 0, .int .i16 lod) ∈ _ from by simp); have c12 := hM.at_ (show (w.heap.size + 3, 1, .int .i16 lnd) ∈ _ from by simp); have c13 := hM.at_ (show (w.heap.size + 3, 2, .int .u16 atd) ∈ _ from by simp)
            refine wpOp_plain rfl rfl ?_
            simp only [updAll, Act.put, List.setIfInBounds_toArray, List.set_cons_zero, List.set_cons_succ] at hK' ⊢
            go_wp2
            exact hK'
          · refine ⟨b0, b1, b2, b3, true, b5, true, b7, b8, b9, v36, v37, v38, v39, (.tuple #[.agg #[.int .i64 P1, .int .i64 P2], .int .i64 0]), v40, _, v15, v16, by rfl, ?_, f0, f1, f2, f3, fun _ => rfl, f5, fun _ => rfl, f9, g7, hM, hz, x7⟩
            rw [← hA0]
            simp [updAll, Act.put]
        · obtain rfl : b7 = false := by simpa using hlst
          obtain rfl := Option.some.inj (show some _ = some oop from hopi)
          have e_st := g7 rfl
          subst e_st
          refine step_to (a' := (updAll A0 [(36, v36), (37, v37), (38, v38), (39, v39), (35, v35), (40, v40), (41, v41), (15, v15), (16, v16)]).put (some 15) (.pointer (some ⟨W.heap.size, 0, none⟩))) (w' := W.alloc (.cells #[.int .i64 0, .int .i64 0] 27)) ?_ ?_
          · intro K' hK'
            subst hA0
            refine wpOp_plain rfl rfl ?_
            simp only [updAll, Act.put, List.setIfInBounds_toArray, List.set_cons_zero, List.set_cons_succ] at hK' ⊢
            go_wp2
            exact hK'
          · refine ⟨b0, b1, b2, b3, b4, b5, b6, true, false, b9, v36, v37, v38, v39, v35, v40, v41, _, v16, by rfl, ?_, f0, f1, f2, f3, f4, f5, f6, f9, by simp, hM.alloc, (by first | omega | (simp; omega) | simp), BoxF.new hz⟩
            rw [← hA0]
            simp [updAll, Act.put]
        · obtain rfl : b8 = false := by simpa using hlst
          obtain rfl := Option.some.inj (show some _ = some oop from hopi)
          obtain rfl : b7 = true := by
            rcases Bool.eq_false_or_eq_true b7 with hbb | hbb
            · exact hbb
            · exfalso; subst hbb; revert hdep; simp [Region.binds]
          obtain rfl : b5 = true := by
            rcases Bool.eq_false_or_eq_true b5 with hbb | hbb
            · exact hbb
            · exfalso; subst hbb; revert hdep; simp [Region.binds]
          have e5 := f5 rfl
          subst e5
          obtain ⟨r, hr1, hr2, hr3⟩ := x7 rfl
          subst hr1
          simp only [Bool.false_eq_true, if_false] at hr3
          refine step_to (a' := updAll A0 [(36, v36), (37, v37), (38, v38), (39, v39), (35, v35), (40, (.agg #[.int .i64 P1, .int .i64 P2])), (41, v41), (15, (.pointer (some ⟨r, 0, none⟩))), (16, v16)]) (w' := ((W.setCell ⟨r, 0, none⟩ (.int .i64 P1)).setCell ⟨r, 1, none⟩ (.int .i64 P2))) ?_ ?_
          · intro K' hK'
            subst hA0
            have q0 := blk_cell (o := 0) hr3 rfl
            have p0 := blk_free (o := 0) hr3
            have q1 := blk_cell (o := 1) hr3 rfl
            have p1 := blk_free (o := 1) hr3
            refine wpOp_plain rfl rfl ?_
            simp only [updAll, Act.put, List.setIfInBounds_toArray, List.set_cons_zero, List.set_cons_succ] at hK' ⊢
            go_wp2
            exact hK'
          · exact ⟨b0, b1, b2, b3, b4, true, b6, true, true, b9, v36, v37, v38, v39, v35, (.agg #[.int .i64 P1, .int .i64 P2]), v41, (.pointer (some ⟨r, 0, none⟩)), v16, by rfl, rfl, f0, f1, f2, f3, f4, fun _ => rfl, f6, f9, by simp, ((hM.set (by omega)).set (by omega)), by simpa using hz, fun _ => ⟨r, rfl, hr2, (blk_set (blk_set hr3))⟩⟩
        · obtain rfl : b9 = false := by simpa using hlst
          obtain rfl := Option.some.inj (show some _ = some oop from hopi)
          obtain rfl : b6 = true := by
            rcases Bool.eq_false_or_eq_true b6 with hbb | hbb
            · exact hbb
            · exfalso; subst hbb; revert hdep; simp [Region.binds]
          have e6 := f6 rfl
          subst e6
          refine step_to (a' := (updAll A0 [(36, v36), (37, v37), (38, v38), (39, v39), (35, v35), (40, v40), (41, (.int .i64 0)), (15, v15), (16, v16)]).put (some 16) ((.int .i64 0))) (w' := W) ?_ ?_
          · intro K' hK'
            subst hA0
            have c0 := hM.at_ (show (r, 0, .int .i64 I1) ∈ _ from by simp); have c1 := hM.at_ (show (r, 1, .int .i64 I2) ∈ _ from by simp); have c2 := hM.at_ (show (w.heap.size, 0, .int .i16 loa) ∈ _ from by simp); have c3 := hM.at_ (show (w.heap.size, 1, .int .i16 lna) ∈ _ from by simp); have c4 := hM.at_ (show (w.heap.size, 2, .int .u16 ata) ∈ _ from by simp); have c5 := hM.at_ (show (w.heap.size + 1, 0, .int .i16 lob) ∈ _ from by simp); have c6 := hM.at_ (show (w.heap.size + 1, 1, .int .i16 lnb) ∈ _ from by simp); have c7 := hM.at_ (show (w.heap.size + 1, 2, .int .u16 atb) ∈ _ from by simp); have c8 := hM.at_ (show (w.heap.size + 2, 0, .int .i16 loc) ∈ _ from by simp); have c9 := hM.at_ (show (w.heap.size + 2, 1, .int .i16 lnc) ∈ _ from by simp); have c10 := hM.at_ (show (w.heap.size + 2, 2, .int .u16 atc) ∈ _ from by simp); have c11 := hM.at_ (show (w.heap.size + 3, 0, .int .i16 lod) ∈ _ from by simp); have c12 := hM.at_ (show (w.heap.size + 3, 1, .int .i16 lnd) ∈ _ from by simp); have c13 := hM.at_ (show (w.heap.size + 3, 2, .int .u16 atd) ∈ _ from by simp)
            refine wpOp_plain rfl rfl ?_
            simp only [updAll, Act.put, List.setIfInBounds_toArray, List.set_cons_zero, List.set_cons_succ] at hK' ⊢
            go_wp2
            exact hK'
          · refine ⟨b0, b1, b2, b3, b4, b5, true, b7, b8, true, v36, v37, v38, v39, v35, v40, (.int .i64 0), v15, _, by rfl, ?_, f0, f1, f2, f3, f4, f5, fun _ => rfl, fun _ => rfl, g7, hM, hz, x7⟩
            rw [← hA0]
            simp [updAll, Act.put]
      case done =>
        rintro l a W ⟨b0, b1, b2, b3, b4, b5, b6, b7, b8, b9, v36, v37, v38, v39, v35, v40, v41, v15, v16, rfl, rfl, f0, f1, f2, f3, f4, f5, f6, f9, g7, hM, hz, x7⟩ hall
        obtain rfl : b0 = true := by simpa using hall 0 (by decide)
        obtain rfl : b1 = true := by simpa using hall 1 (by decide)
        obtain rfl : b2 = true := by simpa using hall 2 (by decide)
        obtain rfl : b3 = true := by simpa using hall 3 (by decide)
        obtain rfl : b4 = true := by simpa using hall 4 (by decide)
        obtain rfl : b5 = true := by simpa using hall 5 (by decide)
        obtain rfl : b6 = true := by simpa using hall 6 (by decide)
        obtain rfl : b7 = true := by simpa using hall 7 (by decide)
        obtain rfl : b8 = true := by simpa using hall 8 (by decide)
        obtain rfl : b9 = true := by simpa using hall 9 (by decide)
        have e0 := f0 rfl
        subst e0
        have e1 := f1 rfl
        subst e1
        have e2 := f2 rfl
        subst e2
        have e3 := f3 rfl
        subst e3
        have e4 := f4 rfl
        subst e4
        have e5 := f5 rfl
        subst e5
        have e6 := f6 rfl
        subst e6
        have e9 := f9 rfl
        subst e9
        obtain ⟨r7, e7, k7, m7⟩ := x7 rfl
        subst e7
        simp only [if_true] at m7
        subst hA0
        simp only [updAll, Act.put, List.setIfInBounds_toArray, List.set_cons_zero, List.set_cons_succ]
        go_wp2_with fail
        go_meet
        exact ⟨r7, rfl, rfl, Cs.cons (Cs.cons hM.grow (blk_cell m7 rfl) (blk_lt m7)) (blk_cell m7 rfl) (blk_lt m7)⟩
    case rest =>
      obtain ⟨p, rfl, rfl, hM⟩ := hcut
      clear HS HB Pc
      have c0 := hM.at_ (show (p, 0, .int .i64 P1) ∈ _ from by simp); have c1 := hM.at_ (show (p, 1, .int .i64 P2) ∈ _ from by simp); have c2 := hM.at_ (show (r, 0, .int .i64 I1) ∈ _ from by simp); have c3 := hM.at_ (show (r, 1, .int .i64 I2) ∈ _ from by simp); have c4 := hM.at_ (show (w.heap.size, 0, .int .i16 loa) ∈ _ from by simp); have c5 := hM.at_ (show (w.heap.size, 1, .int .i16 lna) ∈ _ from by simp); have c6 := hM.at_ (show (w.heap.size, 2, .int .u16 ata) ∈ _ from by simp); have c7 := hM.at_ (show (w.heap.size + 1, 0, .int .i16 lob) ∈ _ from by simp); have c8 := hM.at_ (show (w.heap.size + 1, 1, .int .i16 lnb) ∈ _ from by simp); have c9 := hM.at_ (show (w.heap.size + 1, 2, .int .u16 atb) ∈ _ from by simp); have c10 := hM.at_ (show (w.heap.size + 2, 0, .int .i16 loc) ∈ _ from by simp); have c11 := hM.at_ (show (w.heap.size + 2, 1, .int .i16 lnc) ∈ _ from by simp); have c12 := hM.at_ (show (w.heap.size + 2, 2, .int .u16 atc) ∈ _ from by simp); have c13 := hM.at_ (show (w.heap.size + 3, 0, .int .i16 lod) ∈ _ from by simp); have c14 := hM.at_ (show (w.heap.size + 3, 1, .int .i16 lnd) ∈ _ from by simp); have c15 := hM.at_ (show (w.heap.size + 3, 2, .int .u16 atd) ∈ _ from by simp)
      have HS := Lib.hid hM
      clear hM
      go_upto_region 4 with (go_at_call 13; refine (Pd.out _).mono ?_; rintro e w5 ⟨rfl, hb5⟩)
      have hM : Cs w (w5.heap.size + 1) [(w5.heap.size, 0, .int .i64 D1), (w5.heap.size, 1, .int .i64 D2), (p, 0, .int .i64 P1), (p, 1, .int .i64 P2), (r, 0, .int .i64 I1), (r, 1, .int .i64 I2), (w.heap.size, 0, .int .i16 loa), (w.heap.size, 1, .int .i16 lna), (w.heap.size, 2, .int .u16 ata), (w.heap.size + 1, 0, .int .i16 lob), (w.heap.size + 1, 1, .int .i16 lnb), (w.heap.size + 1, 2, .int .u16 atb), (w.heap.size + 2, 0, .int .i16 loc), (w.heap.size + 2, 1, .int .i16 lnc), (w.heap.size + 2, 2, .int .u16 atc), (w.heap.size + 3, 0, .int .i16 lod), (w.heap.size + 3, 1, .int .i16 lnd), (w.heap.size + 3, 2, .int .u16 atd)] (w5.alloc (Obj.cells #[.int .i64 D1, .int .i64 D2] 27)) :=
        Cs.cons (Cs.cons (((HS.out.step hb5).sub (fun _ h => h) (Nat.le_succ_of_le hb5.size)).alloc) (by go_simp) (by omega)) (by go_simp) (by omega)
      generalize w5.alloc (Obj.cells #[Value.int IntKind.i64 D1, Value.int IntKind.i64 D2] 27) = W0 at *
      generalize w5.heap.size = q at *
      clear c0 c1 c2 c3 c4 c5 c6 c7 c8 c9 c10 c11 c12 c13 c14 c15 hb5 HS Pd
      have HS := Lib.hid hM.grow
      clear hM
      go_cut [18, 19] (fun sa sb W => ∃ g : Nat, sa = .pointer (some ⟨g, 0, none⟩) ∧ sb = .int .i64 0 ∧ Cs w W.heap.size [(g, 0, .int .i64 R1), (g, 1, .int .i64 R2), (q, 0, .int .i64 D1), (q, 1, .int .i64 D2), (p, 0, .int .i64 P1), (p, 1, .int .i64 P2), (r, 0, .int .i64 I1), (r, 1, .int .i64 I2), (w.heap.size, 0, .int .i16 loa), (w.heap.size, 1, .int .i16 lna), (w.heap.size, 2, .int .u16 ata), (w.heap.size + 1, 0, .int .i16 lob), (w.heap.size + 1, 1, .int .i16 lnb), (w.heap.size + 1, 2, .int .u16 atb), (w.heap.size + 2, 0, .int .i16 loc), (w.heap.size + 2, 1, .int .i16 lnc), (w.heap.size + 2, 2, .int .u16 atc), (w.heap.size + 3, 0, .int .i16 lod), (w.heap.size + 3, 1, .int .i16 lnd), (w.heap.size + 3, 2, .int .u16 atd)] W)
      case first =>
        generalize hA0 : (Act.mk _ _) = A0
        refine region_inv (by kernel_rfl) (by kernel_rfl) (fun l a W => ∃ (b0 b1 b2 b3 b4 b5 b6 b7 b8 b9 : Bool) (v45 v46 v47 v48 v44 v49 v50 v18 v19 : Value), l = #[b0, b1, b2, b3, b4, b5, b6, b7, b8, b9] ∧ a = updAll A0 [(45, v45), (46, v46), (47, v47), (48, v48), (44, v44), (49, v49), (50, v50), (18, v18), (19, v19)] ∧ (b0 = true → v45 = (.agg #[.int .i64 D1, .int .i64 D2])) ∧ (b1 = true → v46 = (.agg #[.int .i16 lob, .int .i16 lnb, .int .u16 atb])) ∧ (b2 = true → v47 = (.agg #[.int .i64 B1, .int .i64 B2])) ∧ (b3 = true → v48 = (.tuple #[.agg #[.int .i64 R1, .int .i64 R2], .int .i64 0])) ∧ (b4 = true → v44 = (.tuple #[.agg #[.int .i64 R1, .int .i64 R2], .int .i64 0])) ∧ (b5 = true → v49 = (.agg #[.int .i64 R1, .int .i64 R2])) ∧ (b6 = true → v50 = (.int .i64 0)) ∧ (b9 = true → v19 = (.int .i64 0)) ∧ (b7 = false → b8 = false) ∧ Cs w W0.heap.size [(q, 0, .int .i64 D1), (q, 1, .int .i64 D2), (p, 0, .int .i64 P1), (p, 1, .int .i64 P2), (r, 0, .int .i64 I1), (r, 1, .int .i64 I2), (w.heap.size, 0, .int .i16 loa), (w.heap.size, 1, .int .i16 lna), (w.heap.size, 2, .int .u16 ata), (w.heap.size + 1, 0, .int .i16 lob), (w.heap.size + 1, 1, .int .i16 lnb), (w.heap.size + 1, 2, .int .u16 atb), (w.heap.size + 2, 0, .int .i16 loc), (w.heap.size + 2, 1, .int .i16 lnc), (w.heap.size + 2, 2, .int .u16 atc), (w.heap.size + 3, 0, .int .i16 lod), (w.heap.size + 3, 1, .int .i16 lnd), (w.heap.size + 3, 2, .int .u16 atd)] W ∧ W0.heap.size ≤ W.heap.size ∧ BoxF b7 b8 v18 (W0.heap.size) #[.int .i64 0, .int .i64 0] #[.int .i64 R1, .int .i64 R2] 27 W) ?h0 ?hsz ?step ?done
        case h0 =>
          refine ⟨false, false, false, false, false, false, false, false, false, false, A0.tmps.getD 45 undef, A0.tmps.getD 46 undef, A0.tmps.getD 47 undef, A0.tmps.getD 48 undef, A0.tmps.getD 44 undef, A0.tmps.getD 49 undef, A0.tmps.getD 50 undef, A0.tmps.getD 18 undef, A0.tmps.getD 19 undef, by rfl, ?_, by simp, by simp, by simp, by simp, by simp, by simp, by simp, by simp, by simp, HS.out.drew, by simp, BoxF.no⟩
          rw [← hA0]
          simp [updAll, Act.put]
        case hsz =>
          rintro l a W ⟨b0, b1, b2, b3, b4, b5, b6, b7, b8, b9, v45, v46, v47, v48, v44, v49, v50, v18, v19, rfl, -⟩
          rfl
        case step =>
          intro iop oop hopi lst act W hInv hlst hdep
          obtain ⟨b0, b1, b2, b3, b4, b5, b6, b7, b8, b9, v45, v46, v47, v48, v44, v49, v50, v18, v19, rfl, rfl, f0, f1, f2, f3, f4, f5, f6, f9, g7, hM, hz, x7⟩ := hInv
          have hi8 : iop < 10 := (Array.getElem?_eq_some_iff.1 hopi).1
          have hi9 : iop = 0 ∨ iop = 1 ∨ iop = 2 ∨ iop = 3 ∨ iop = 4 ∨ iop = 5 ∨ iop = 6 ∨ iop = 7 ∨ iop = 8 ∨ iop = 9 := by omega
          rcases hi9 with rfl | rfl | rfl | rfl | rfl | rfl | rfl | rfl | rfl | rfl
          · obtain rfl : b0 = false := by simpa using hlst
            obtain rfl := Option.some.inj (show some _ = some oop from hopi)
            refine step_to (a' := (updAll A0 [(45, v45), (46, v46), (47, v47), (48, v48), (44, v44), (49, v49), (50, v50), (18, v18), (19, v19)]).put (some 45) ((.agg #[.int .i64 D1, .int .i64 D2]))) (w' := W) ?_ ?_
            · intro K' hK'
              subst hA0
              have c0 := hM.at_ (show (q, 0, .int .i64 D1) ∈ _ from by simp); have c1 := hM.at_ (show (q, 1, .int .i64 D2) ∈ _ from by simp); have c2 := hM.at_ (show (p, 0, .int .i64 P1) ∈ _ from by simp); have c3 := hM.at_ (show (p, 1, .int .i64 P2) ∈ _ from by simp); have c4 := hM.at_ (show (r, 0, .int .i64 I1) ∈ _ from by simp); have c5 := hM.at_ (show (r, 1, .int .i64 I2) ∈ _ from by simp); have c6 := hM.at_ (show (w.heap.size, 0, .int .i16 loa) ∈ _ from by simp); have c7 := hM.at_ (show (w.heap.size, 1, .int .i16 lna) ∈ _ from by simp); have c8 := hM.at_ (show (w.heap.size, 2, .int .u16 ata) ∈ _ from by simp); have c9 := hM.at_ (show (w.heap.size + 1, 0, .int .i16 lob) ∈ _ from by simp); have c10 := hM.at_ (show (w.heap.size + 1, 1, .int .i16 lnb) ∈ _ from by simp); have c11 := hM.at_ (show (w.heap.size + 1, 2, .int .u16 atb) ∈ _ from by simp); have c12 := hM.at_ (show (w.heap.size + 2, 0, .int .i16 loc) ∈ _ from by simp); have c13 := hM.at_ (show (w.heap.size + 2, 1, .int .i16 lnc) ∈ _ from by simp); have c14 := hM.at_ (show (w.heap.size + 2, 2, .int .u16 atc) ∈ _ from by simp); have c15 := hM.at_ (show (w.heap.size + 3, 0, .int .i16 lod) ∈ _ from by simp); have c16 := hM.at_ (show (w.heap.size + 3, 1, .int .i16 lnd) ∈ _ from by simp); have c17 := hM.at_ (show (w.heap.size + 3, 2, .int .u16 atd) ∈ _ from by simp)
              refine wpOp_plain rfl rfl ?_
              simp only [updAll, Act.put, List.setIfInBounds_toArray, List.set_cons_zero, List.set_cons_succ] at hK' ⊢
              go_wp2
              exact hK'
            · refine ⟨true, b1, b2, b3, b4, b5, b6, b7, b8, b9, _, v46, v47, v48, v44, v49, v50, v18, v19, by rfl, ?_, fun _ => rfl, f1, f2, f3, f4, f5, f6, f9, g7, hM, hz, x7⟩
              rw [← hA0]
              simp [updAll, Act.put]
          · obtain rfl : b1 = false := by simpa using hlst
            obtain rfl := Option.some.inj (show some _ = some oop from hopi)
            refine step_to (a' := (updAll A0 [(45, v45), (46, v46), (47, v47), (48, v48), (44, v44), (49, v49), (50, v50), (18, v18), (19, v19)]).put (some 46) ((.agg #[.int .i16 lob, .int .i16 lnb, .int .u16 atb]))) (w' := W) ?_ ?_
            · intro K' hK'
              subst hA0
              have c0 := hM.at_ (show (q, 0, .int .i64 D1) ∈ _ from by simp); have c1 := hM.at_ (show (q, 1, .int .i64 D2) ∈ _ from by simp); have c2 := hM.at_ (show (p, 0, .int .i64 P1) ∈ _ from by simp); have c3 := hM.at_ (show (p, 1, .int .i64 P2) ∈ _ from by simp); have c4 := hM.at_ (show (r, 0, .int .i64 I1) ∈ _ from by simp); have c5 := hM.at_ (show (r, 1, .int .i64 I2) ∈ _ from by simp); have c6 := hM.at_ (show (w.heap.size, 0, .int .i16 loa) ∈ _ from by simp); have c7 := hM.at_ (show (w.heap.size, 1, .int .i16 lna) ∈ _ from by simp); have c8 := hM.at_ (show (w.heap.size, 2, .int .u16 ata) ∈ _ from by simp); have c9 := hM.at_ (show (w.heap.size + 1, 0, .int .i16 lob) ∈ _ from by simp); have c10 := hM.at_ (show (w.heap.size + 1, 1, .int .i16 lnb) ∈ _ from by simp); have c11 := hM.at_ (show (w.heap.size + 1, 2, .int .u16 atb) ∈ _ from by simp); have c12 := hM.at_ (show (w.heap.size + 2, 0, .int .i16 loc) ∈ _ from by simp); have c13 := hM.at_ (show (w.heap.size + 2, 1, .int .i16 lnc) ∈ _ from by simp); have c14 := hM.at_ (show (w.heap.size + 2, 2, .int .u16 atc) ∈ _ from by simp); have c15 := hM.at_ (show (w.heap.size + 3, 0, .int .i16 lod) ∈ _ from by simp); have c16 := hM.at_ (show (w.heap.size + 3, 1, .int .i16 lnd) ∈ _ from by simp); have c17 := hM.at_ (show (w.heap.size + 3, 2, .int .u16 atd) ∈ _ from by simp)
              refine wpOp_plain rfl rfl ?_
              simp only [updAll, Act.put, List.setIfInBounds_toArray, List.set_cons_zero, List.set_cons_succ] at hK' ⊢
              go_wp2
              exact hK'
            · refine ⟨b0, true, b2, b3, b4, b5, b6, b7, b8, b9, v45, _, v47, v48, v44, v49, v50, v18, v19, by rfl, ?_, f0, fun _ => rfl, f2, f3, f4, f5, f6, f9, g7, hM, hz, x7⟩
              rw [← hA0]
              simp [updAll, Act.put]
          · obtain rfl : b2 = false := by simpa using hlst
            obtain rfl := Option.some.inj (show some _ = some oop from hopi)
            obtain rfl : b1 = true := by
              rcases Bool.eq_false_or_eq_true b1 with hbb | hbb
              · exact hbb
              · exfalso; subst hbb; revert hdep; simp [Region.binds]
            have e1 := f1 rfl
            subst e1
            refine step_ex (fun a' w' => a' = (updAll A0 [(45, v45), (46, (.agg #[.int .i16 lob, .int .i16 lnb, .int .u16 atb])), (47, v47), (48, v48), (44, v44), (49, v49), (50, v50), (18, v18), (19, v19)]).put (some 47) ((.agg #[.int .i64 B1, .int .i64 B2])) ∧ Below W.heap.size W w') ?_ ?_
            · intro K' hK'
              subst hA0
              have c0 := hM.at_ (show (q, 0, .int .i64 D1) ∈ _ from by simp); have c1 := hM.at_ (show (q, 1, .int .i64 D2) ∈ _ from by simp); have c2 := hM.at_ (show (p, 0, .int .i64 P1) ∈ _ from by simp); have c3 := hM.at_ (show (p, 1, .int .i64 P2) ∈ _ from by simp); have c4 := hM.at_ (show (r, 0, .int .i64 I1) ∈ _ from by simp); have c5 := hM.at_ (show (r, 1, .int .i64 I2) ∈ _ from by simp); have c6 := hM.at_ (show (w.heap.size, 0, .int .i16 loa) ∈ _ from by simp); have c7 := hM.at_ (show (w.heap.size, 1, .int .i16 lna) ∈ _ from by simp); have c8 := hM.at_ (show (w.heap.size, 2, .int .u16 ata) ∈ _ from by simp); have c9 := hM.at_ (show (w.heap.size + 1, 0, .int .i16 lob) ∈ _ from by simp); have c10 := hM.at_ (show (w.heap.size + 1, 1, .int .i16 lnb) ∈ _ from by simp); have c11 := hM.at_ (show (w.heap.size + 1, 2, .int .u16 atb) ∈ _ from by simp); have c12 := hM.at_ (show (w.heap.size + 2, 0, .int .i16 loc) ∈ _ from by simp); have c13 := hM.at_ (show (w.heap.size + 2, 1, .int .i16 lnc) ∈ _ from by simp); have c14 := hM.at_ (show (w.heap.size + 2, 2, .int .u16 atc) ∈ _ from by simp); have c15 := hM.at_ (show (w.heap.size + 3, 0, .int .i16 lod) ∈ _ from by simp); have c16 := hM.at_ (show (w.heap.size + 3, 1, .int .i16 lnd) ∈ _ from by simp); have c17 := hM.at_ (show (w.heap.size + 3, 2, .int .u16 atd) ∈ _ from by simp)
              refine wpOp_plain rfl rfl ?_
              simp only [updAll, Act.put, List.setIfInBounds_toArray, List.set_cons_zero, List.set_cons_succ] at hK' ⊢
              go_wp2_with (go_at_call 13; refine (Pb.out _).mono ?_; rintro e w1 ⟨rfl, hb1⟩)
              all_goals (first | exact ⟨rfl, hb1⟩ | exact hK' _ _ ⟨rfl, hb1⟩)
            · rintro a' w' ⟨rfl, hb1⟩
              refine ⟨b0, true, true, b3, b4, b5, b6, b7, b8, b9, v45, (.agg #[.int .i16 lob, .int .i16 lnb, .int .u16 atb]), _, v48, v44, v49, v50, v18, v19, by rfl, ?_, f0, fun _ => rfl, fun _ => rfl, f3, f4, f5, f6, f9, g7, hM.step hb1, Nat.le_trans hz hb1.size, x7.step hb1⟩
              rw [← hA0]
              simp [updAll, Act.put]
          · obtain rfl : b3 = false := by simpa using hlst
            obtain rfl := Option.some.inj (show some _ = some oop from hopi)
            obtain rfl : b0 = true := by
              rcases Bool.eq_false_or_eq_true b0 with hbb | hbb
              · exact hbb
              · exfalso; subst hbb; revert hdep; simp [Region.binds]
            obtain rfl : b2 = true := by
              rcases Bool.eq_false_or_eq_true b2 with hbb | hbb
              · exact hbb
              · exfalso; subst hbb; revert hdep; simp [Region.binds]
            have e0 := f0 rfl
            subst e0
            have e2 := f2 rfl
            subst e2
            refine step_ex (fun a' w' => a' = (updAll A0 [(45, (.agg #[.int .i64 D1, .int .i64 D2])), (46, v46), (47, (.agg #[.int .i64 B1, .int .i64 B2])), (48, v48), (44, v44), (49, v49), (50, v50), (18, v18), (19, v19)]).put (some 48) ((.tuple #[.agg #[.int .i64 R1, .int .i64 R2], .int .i64 0])) ∧ Below W.heap.size W w') ?_ ?_
            · intro K' hK'
              subst hA0
              have c0 := hM.at_ (show (q, 0, .int .i64 D1) ∈ _ from by simp); have c1 := hM.at_ (show (q, 1, .int .i64 D2) ∈ _ from by simp); have c2 := hM.at_ (show (p, 0, .int .i64 P1) ∈ _ from by simp); have c3 := hM.at_ (show (p, 1, .int .i64 P2) ∈ _ from by simp); have c4 := hM.at_ (show (r, 0, .int .i64 I1) ∈ _ from by simp); have c5 := hM.at_ (show (r, 1, .int .i64 I2) ∈ _ from by simp); have c6 := hM.at_ (show (w.heap.size, 0, .int .i16 loa) ∈ _ from by simp); have c7 := hM.at_ (show (w.heap.size, 1, .int .i16 lna) ∈ _ from by simp); have c8 := hM.at_ (show (w.heap.size, 2, .int .u16 ata) ∈ _ from by simp); have c9 := hM.at_ (show (w.heap.size + 1, 0, .int .i16 lob) ∈ _ from by simp); have c10 := hM.at_ (show (w.heap.size + 1, 1, .int .i16 lnb) ∈ _ from by simp); have c11 := hM.at_ (show (w.heap.size + 1, 2, .int .u16 atb) ∈ _ from by simp); have c12 := hM.at_ (show (w.heap.size + 2, 0, .int .i16 loc) ∈ _ from by simp); have c13 := hM.at_ (show (w.heap.size + 2, 1, .int .i16 lnc) ∈ _ from by simp); have c14 := hM.at_ (show (w.heap.size + 2, 2, .int .u16 atc) ∈ _ from by simp); have c15 := hM.at_ (show (w.heap.size + 3, 0, .int .i16 lod) ∈ _ from by simp); have c16 := hM.at_ (show (w.heap.size + 3, 1, .int .i16 lnd) ∈ _ from by simp); have c17 := hM.at_ (show (w.heap.size + 3, 2, .int .u16 atd) ∈ _ from by simp)
              refine wpOp_plain rfl rfl ?_
              simp only [updAll, Act.put, List.setIfInBounds_toArray, List.set_cons_zero, List.set_cons_succ] at hK' ⊢
              go_wp2_with (go_at_call 15; refine (HC.out _).mono ?_; rintro e w1 ⟨rfl, hb1⟩)
              all_goals (first | exact ⟨rfl, hb1⟩ | exact hK' _ _ ⟨rfl, hb1⟩)
            · rintro a' w' ⟨rfl, hb1⟩
              refine ⟨true, b1, true, true, b4, b5, b6, b7, b8, b9, (.agg #[.int .i64 D1, .int .i64 D2]), v46, (.agg #[.int .i64 B1, .int .i64 B2]), _, v44, v49, v50, v18, v19, by rfl, ?_, fun _ => rfl, f1, fun _ => rfl, fun _ => rfl, f4, f5, f6, f9, g7, hM.step hb1, Nat.le_trans hz hb1.size, x7.step hb1⟩
              rw [← hA0]
              simp [updAll, Act.put]
          · obtain rfl : b4 = false := by simpa using hlst
            obtain rfl := Option.some.inj (show some _ = some oop from hopi)
            obtain rfl : b3 = true := by
              rcases Bool.eq_false_or_eq_true b3 with hbb | hbb
              · exact hbb
              · exfalso; subst hbb; revert hdep; simp [Region.binds]
            have e3 := f3 rfl
            subst e3
            refine step_to (a' := (updAll A0 [(45, v45), (46, v46), (47, v47), (48, (.tuple #[.agg #[.int .i64 R1, .int .i64 R2], .int .i64 0])), (44, v44), (49, v49), (50, v50), (18, v18), (19, v19)]).put (some 44) ((.tuple #[.agg #[.int .i64 R1, .int .i64 R2], .int .i64 0]))) (w' := W) ?_ ?_
            · intro K' hK'
              subst hA0
              have c0 := hM.at_ (show (q, 0, .int .i64 D1) ∈ _ from by simp); have c1 := hM.at_ (show (q, 1, .int .i64 D2) ∈ _ from by simp); have c2 := hM.at_ (show (p, 0, .int .i64 P1) ∈ _ from by simp); have c3 := hM.at_ (show (p, 1, .int .i64 P2) ∈ _ from by simp); have c4 := hM.at_ (show (r, 0, .int .i64 I1) ∈ _ from by simp); have c5 := hM.at_ (show (r, 1, .int .i64 I2) ∈ _ from by simp); have c6 := hM.at_ (show (w.heap.size, 0, .int .i16 loa) ∈ _ from by simp); have c7 := hM.at_ (show (w.heap.size, 1, .int .i16 lna) ∈ _ from by simp); have c8 := hM.at_ (show (w.heap.size, 2, .int .u16 ata) ∈ _ from by simp); have c9 := hM.at_ (show (w.heap.size + 1, 0, .int .i16 lob) ∈ _ from by simp); have c10 := hM.at_ (show (w.heap.size + 1, 1, .int .i16 lnb) ∈ _ from by simp); have c11 := hM.at_ (show (w.heap.size + 1, 2, .int .u16 atb) ∈ _ from by simp); have c12 := hM.at_ (show (w.heap.size + 2, 0, .int .i16 loc) ∈ _ from by simp); have c13 := hM.at_ (show (w.heap.size + 2, 1, .int .i16 lnc) ∈ _ from by simp); have c14 := hM.at_ (show (w.heap.size + 2, 2, .int .u16 atc) ∈ _ from by simp); have c15 := hM.at_ (show (w.heap.size + 3, 0, .int .i16 lod) ∈ _ from by simp); have c16 := hM.at_ (show (w.heap.size + 3, 1, .int .i16 lnd) ∈ _ from by simp); have c17 := hM.at_ (show (w.heap.size + 3, 2, .int .u16 atd) ∈ _ from by simp)
              refine wpOp_plain rfl rfl ?_
              simp only [updAll, Act.put, List.setIfInBounds_toArray, List.set_cons_zero, List.set_cons_succ] at hK' ⊢
              go_wp2
              exact hK'
            · refine ⟨b0, b1, b2, true, true, b5, b6, b7, b8, b9, v45, v46, v47, (.tuple #[.agg #[.int .i64 R1, .int .i64 R2], .int .i64 0]), _, v49, v50, v18, v19, by rfl, ?_, f0, f1, f2, fun _ => rfl, fun _ => rfl, f5, f6, f9, g7, hM, hz, x7⟩
              rw [← hA0]
              simp [updAll, Act.put]
          · obtain rfl : b5 = false := by simpa using hlst
            obtain rfl := Option.some.inj (show some _ = some oop from hopi)
            obtain rfl : b4 = true := by
              rcases Bool.eq_false_or_eq_true b4 with hbb | hbb
              · exact hbb
              · exfalso; subst hbb; revert hdep; simp [Region.binds]
            have e4 := f4 rfl
            subst e4
            refine step_to (a' := (updAll A0 [(45, v45), (46, v46), (47, v47), (48, v48), (44, (.tuple #[.agg #[.int .i64 R1, .int .i64 R2], .int .i64 0])), (49, v49), (50, v50), (18, v18), (19, v19)]).put (some 49) ((.agg #[.int .i64 R1, .int .i64 R2]))) (w' := W) ?_ ?_
            · intro K' hK'
              subst hA0
              have c0 := hM.at_ (show (q, 0, .int .i64 D1) ∈ _ from by simp); have c1 := hM.at_ (show (q, 1, .int .i64 D2) ∈ _ from by simp); have c2 := hM.at_ (show (p, 0, .int .i64 P1) ∈ _ from by simp); have c3 := hM.at_ (show (p, 1, .int .i64 P2) ∈ _ from by simp); have c4 := hM.at_ (show (r, 0, .int .i64 I1) ∈ _ from by simp); have c5 := hM.at_ (show (r, 1, .int .i64 I2) ∈ _ from by simp); have c6 := hM.at_ (show (w.heap.size, 0, .int .i16 loa) ∈ _ from by simp); have c7 := hM.at_ (show (w.heap.size, 1, .int .i16 lna) ∈ _ from by simp); have c8 := hM.at_ (show (w.heap.size, 2, .int .u16 ata) ∈ _ from by simp); have c9 := hM.at_ (show (w.heap.size + 1, 0, .int .i16 lob) ∈ _ from by simp); have c10 := hM.at_ (show (w.heap.size + 1, 1, .int .i16 lnb) ∈ _ from by simp); have c11 := hM.at_ (show (w.heap.size + 1, 2, .int .u16 atb) ∈ _ from by simp); have c12 := hM.at_ (show (w.heap.size + 2, 0, .int .i16 loc) ∈ _ from by simp); have c13 := hM.at_ (show (w.heap.size + 2, 1, .int .i16 lnc) ∈ _ from by simp); have c14 := hM.at_ (show (w.heap.size + 2, 2, .int .u16 atc) ∈ _ from by simp); have c15 := hM.at_ (show (w.heap.size + 3, 0, .int .i16 lod) ∈ _ from by simp); have c16 := hM.at_ (show (w.heap.size + 3, 1, .int .i16 lnd) ∈ _ from by simp); have c17 := hM.at_ (show (w.heap.size + 3, 2, .int .u16 atd) ∈ _ from by simp)
              refine wpOp_plain rfl rfl ?_
              simp only [updAll, Act.put, List.setIfInBounds_toArray, List.set_cons_zero, List.set_cons_succ] at hK' ⊢
              go_wp2
              exact hK'
            · refine ⟨b0, b1, b2, b3, true, true, b6, b7, b8, b9, v45, v46, v47, v48, (.tuple #[.agg #[.int .i64 R1, .int .i64 R2], .int .i64 0]), _, v50, v18, v19, by rfl, ?_, f0, f1, f2, f3, fun _ => rfl, fun _ => rfl, f6, f9, g7, hM, hz, x7⟩
              rw [← hA0]
              simp [updAll, Act.put]
          · obtain rfl : b6 = false := by simpa using hlst
            obtain rfl := Option.some.inj (show some _ = some oop from hopi)
            obtain rfl : b4 = true := by
              rcases Bool.eq_false_or_eq_true b4 with hbb | hbb
              · exact hbb
              · exfalso; subst hbb; revert hdep; simp [Region.binds]
            have e4 := f4 rfl
            subst e4
            refine step_to (a' := (updAll A0 [(45, v45), (46, v46), (47, v47), (48, v48), (44, (.tuple #[.agg #[.int .i64 R1, .int .i64 R2], .int .i64 0])), (49, v49), (50, v50), (18, v18), (19, v19)]).put (some 50) ((.int .i64 0))) (w' := W) ?_ ?_
            · intro K' hK'
              subst hA0
              have c0 := hM.at_ (show (q, 0, .int .i64 D1) ∈ _ from by simp); have c1 := hM.at_ (show (q, 1, .int .i64 D2) ∈ _ from by simp); have c2 := hM.at_ (show (p, 0, .int .i64 P1) ∈ _ from by simp); have c3 := hM.at_ (show (p, 1, .int .i64 P2) ∈ _ from by simp); have c4 := hM.at_ (show (r, 0, .int .i64 I1) ∈ _ from by simp); have c5 := hM.at_ (show (r, 1, .int .i64 I2) ∈ _ from by simp); have c6 := hM.at_ (show (w.heap.size, 0, .int .i16 loa) ∈ _ from by simp); have c7 := hM.at_ (show (w.heap.size, 1, .int .i16 lna) ∈ _ from by simp); have c8 := hM.at_ (show (w.heap.size, 2, .int .u16 ata) ∈ _ from by simp); have c9 := hM.at_ (show (w.heap.size + 1, 0, .int .i16 lob) ∈ _ from by simp); have c10 := hM.at_ (show (w.heap.size + 1, 1, .int .i16 lnb) ∈ _ from by simp); have c11 := hM.at_ (show (w.heap.size + 1, 2, .int .u16 atb) ∈ _ from by simp); have c12 := hM.at_ (show (w.heap.size + 2, 0, .int .i16 loc) ∈ _ from by simp); have c13 := hM.at_ (show (w.heap.size + 2, 1, .int .i16 lnc) ∈ _ from by simp); have c14 := hM.at_ (show (w.heap.size + 2, 2, .int .u16 atc) ∈ _ from by simp); have c15 := hM.at_ (show (w.heap.size + 3, 0, .int .i16 lod) ∈ _ from by simp); have c16 := hM.at_ (show (w.heap.size + 3, 1, .int .i16 lnd) ∈ _ from by simp); have c17 := hM.at_ (show (w.heap.size + 3, 2, .int .u16 atd) ∈ _ from by simp)
              refine wpOp_plain rfl rfl ?_
              simp only [updAll, Act.put, List.setIfInBounds_toArray, List.set_cons_zero, List.set_cons_succ] at hK' ⊢
              go_wp2
              exact hK'
            · refine ⟨b0, b1, b2, b3, true, b5, true, b7, b8, b9, v45, v46, v47, v48, (.tuple #[.agg #[.int .i64 R1, .int .i64 R2], .int .i64 0]), v49, _, v18, v19, by rfl, ?_, f0, f1, f2, f3, fun _ => rfl, f5, fun _ => rfl, f9, g7, hM, hz, x7⟩
              rw [← hA0]
              simp [updAll, Act.put]
          · obtain rfl : b7 = false := by simpa using hlst
            obtain rfl := Option.some.inj (show some _ = some oop from hopi)
            have e_st := g7 rfl
            subst e_st
            refine step_to (a' := (updAll A0 [(45, v45), (46, v46), (47, v47), (48, v48), (44, v44), (49, v49), (50, v50), (18, v18), (19, v19)]).put (some 18) (.pointer (some ⟨W.heap.size, 0, none⟩))) (w' := W.alloc (.cells #[.int .i64 0, .int .i64 0] 27)) ?_ ?_
            · intro K' hK'
              subst hA0
              refine wpOp_plain rfl rfl ?_
              simp only [updAll, Act.put, List.setIfInBounds_toArray, List.set_cons_zero, List.set_cons_succ] at hK' ⊢
              go_wp2
              exact hK'
            · refine ⟨b0, b1, b2, b3, b4, b5, b6, true, false, b9, v45, v46, v47, v48, v44, v49, v50, _, v19, by rfl, ?_, f0, f1, f2, f3, f4, f5, f6, f9, by simp, hM.alloc, (by first | omega | (simp; omega) | simp), BoxF.new hz⟩
              rw [← hA0]
              simp [updAll, Act.put]
          · obtain rfl : b8 = false := by simpa using hlst
            obtain rfl := Option.some.inj (show some _ = some oop from hopi)
            obtain rfl : b7 = true := by
              rcases Bool.eq_false_or_eq_true b7 with hbb | hbb
              · exact hbb
              · exfalso; subst hbb; revert hdep; simp [Region.binds]
            obtain rfl : b5 = true := by
              rcases Bool.eq_false_or_eq_true b5 with hbb | hbb
              · exact hbb
              · exfalso; subst hbb; revert hdep; simp [Region.binds]
            have e5 := f5 rfl
            subst e5
            obtain ⟨r, hr1, hr2, hr3⟩ := x7 rfl
            subst hr1
            simp only [Bool.false_eq_true, if_false] at hr3
            refine step_to (a' := updAll A0 [(45, v45), (46, v46), (47, v47), (48, v48), (44, v44), (49, (.agg #[.int .i64 R1, .int .i64 R2])), (50, v50), (18, (.pointer (some ⟨r, 0, none⟩))), (19, v19)]) (w' := ((W.setCell ⟨r, 0, none⟩ (.int .i64 R1)).setCell ⟨r, 1, none⟩ (.int .i64 R2))) ?_ ?_
            · intro K' hK'
              subst hA0
              have q0 := blk_cell (o := 0) hr3 rfl
              have p0 := blk_free (o := 0) hr3
              have q1 := blk_cell (o := 1) hr3 rfl
              have p1 := blk_free (o := 1) hr3
              refine wpOp_plain rfl rfl ?_
              simp only [updAll, Act.put, List.setIfInBounds_toArray, List.set_cons_zero, List.set_cons_succ] at hK' ⊢
              go_wp2
              exact hK'
            · exact ⟨b0, b1, b2, b3, b4, true, b6, true, true, b9, v45, v46, v47, v48, v44, (.agg #[.int .i64 R1, .int .i64 R2]), v50, (.pointer (some ⟨r, 0, none⟩)), v19, by rfl, rfl, f0, f1, f2, f3, f4, fun _ => rfl, f6, f9, by simp, ((hM.set (by omega)).set (by omega)), by simpa using hz, fun _ => ⟨r, rfl, hr2, (blk_set (blk_set hr3))⟩⟩
          · obtain rfl : b9 = false := by simpa using hlst
            obtain rfl := Option.some.inj (show some _ = some oop from hopi)
            obtain rfl : b6 = true := by
              rcases Bool.eq_false_or_eq_true b6 with hbb | hbb
              · exact hbb
              · exfalso; subst hbb; revert hdep; simp [Region.binds]
            have e6 := f6 rfl
            subst e6
            refine step_to (a' := (updAll A0 [(45, v45), (46, v46), (47, v47), (48, v48), (44, v44), (49, v49), (50, (.int .i64 0)), (18, v18), (19, v19)]).put (some 19) ((.int .i64 0))) (w' := W) ?_ ?_
            · intro K' hK'
              subst hA0
              have c0 := hM.at_ (show (q, 0, .int .i64 D1) ∈ _ from by simp); have c1 := hM.at_ (show (q, 1, .int .i64 D2) ∈ _ from by simp); have c2 := hM.at_ (show (p, 0, .int .i64 P1) ∈ _ from by simp); have c3 := hM.at_ (show (p, 1, .int .i64 P2) ∈ _ from by simp); have c4 := hM.at_ (show (r, 0, .int .i64 I1) ∈ _ from by simp); have c5 := hM.at_ (show (r, 1, .int .i64 I2) ∈ _ from by simp); have c6 := hM.at_ (show (w.heap.size, 0, .int .i16 loa) ∈ _ from by simp); have c7 := hM.at_ (show (w.heap.size, 1, .int .i16 lna) ∈ _ from by simp); have c8 := hM.at_ (show (w.heap.size, 2, .int .u16 ata) ∈ _ from by simp); have c9 := hM.at_ (show (w.heap.size + 1, 0, .int .i16 lob) ∈ _ from by simp); have c10 := hM.at_ (show (w.heap.size + 1, 1, .int .i16 lnb) ∈ _ from by simp); have c11 := hM.at_ (show (w.heap.size + 1, 2, .int .u16 atb) ∈ _ from by simp); have c12 := hM.at_ (show (w.heap.size + 2, 0, .int .i16 loc) ∈ _ from by simp); have c13 := hM.at_ (show (w.heap.size + 2, 1, .int .i16 lnc) ∈ _ from by simp); have c14 := hM.at_ (show (w.heap.size + 2, 2, .int .u16 atc) ∈ _ from by simp); have c15 := hM.at_ (show (w.heap.size + 3, 0, .int .i16 lod) ∈ _ from by simp); have c16 := hM.at_ (show (w.heap.size + 3, 1, .int .i16 lnd) ∈ _ from by simp); have c17 := hM.at_ (show (w.heap.size + 3, 2, .int .u16 atd) ∈ _ from by simp)
              refine wpOp_plain rfl rfl ?_
              simp only [updAll, Act.put, List.setIfInBounds_toArray, List.set_cons_zero, List.set_cons_succ] at hK' ⊢
              go_wp2
              exact hK'
            · refine ⟨b0, b1, b2, b3, b4, b5, true, b7, b8, true, v45, v46, v47, v48, v44, v49, (.int .i64 0), v18, _, by rfl, ?_, f0, f1, f2, f3, f4, f5, fun _ => rfl, fun _ => rfl, g7, hM, hz, x7⟩
              rw [← hA0]
              simp [updAll, Act.put]
        case done =>
          rintro l a W ⟨b0, b1, b2, b3, b4, b5, b6, b7, b8, b9, v45, v46, v47, v48, v44, v49, v50, v18, v19, rfl, rfl, f0, f1, f2, f3, f4, f5, f6, f9, g7, hM, hz, x7⟩ hall
          obtain rfl : b0 = true := by simpa using hall 0 (by decide)
          obtain rfl : b1 = true := by simpa using hall 1 (by decide)
          obtain rfl : b2 = true := by simpa using hall 2 (by decide)
          obtain rfl : b3 = true := by simpa using hall 3 (by decide)
          obtain rfl : b4 = true := by simpa using hall 4 (by decide)
          obtain rfl : b5 = true := by simpa using hall 5 (by decide)
          obtain rfl : b6 = true := by simpa using hall 6 (by decide)
          obtain rfl : b7 = true := by simpa using hall 7 (by decide)
          obtain rfl : b8 = true := by simpa using hall 8 (by decide)
          obtain rfl : b9 = true := by simpa using hall 9 (by decide)
          have e0 := f0 rfl
          subst e0
          have e1 := f1 rfl
          subst e1
          have e2 := f2 rfl
          subst e2
          have e3 := f3 rfl
          subst e3
          have e4 := f4 rfl
          subst e4
          have e5 := f5 rfl
          subst e5
          have e6 := f6 rfl
          subst e6
          have e9 := f9 rfl
          subst e9
          obtain ⟨r7, e7, k7, m7⟩ := x7 rfl
          subst e7
          simp only [if_true] at m7
          subst hA0
          simp only [updAll, Act.put, List.setIfInBounds_toArray, List.set_cons_zero, List.set_cons_succ]
          go_wp2_with fail
          go_meet
          exact ⟨r7, rfl, rfl, Cs.cons (Cs.cons hM.grow (blk_cell m7 rfl) (blk_lt m7)) (blk_cell m7 rfl) (blk_lt m7)⟩
      case rest =>
        obtain ⟨g, rfl, rfl, hM⟩ := hcut
        have HS := Lib.hid (show Cs w wc.heap.size [(g, 0, .int .i64 R1), (g, 1, .int .i64 R2), (q, 0, .int .i64 D1), (q, 1, .int .i64 D2), (p, 0, .int .i64 P1), (p, 1, .int .i64 P2), (r, 0, .int .i64 I1), (r, 1, .int .i64 I2)] wc from hM.sub (fun c hc => by simp only [List.mem_cons, List.mem_nil_iff, or_false] at hc ⊢; rcases hc with h | h | h | h | h | h | h | h <;> simp [h]) (Nat.le_refl _))
        clear hM HC Pb
        have c0 := HS.out.at_ (show (g, 0, .int .i64 R1) ∈ _ from by simp); have c1 := HS.out.at_ (show (g, 1, .int .i64 R2) ∈ _ from by simp); have c2 := HS.out.at_ (show (q, 0, .int .i64 D1) ∈ _ from by simp); have c3 := HS.out.at_ (show (q, 1, .int .i64 D2) ∈ _ from by simp); have c4 := HS.out.at_ (show (p, 0, .int .i64 P1) ∈ _ from by simp); have c5 := HS.out.at_ (show (p, 1, .int .i64 P2) ∈ _ from by simp); have c6 := HS.out.at_ (show (r, 0, .int .i64 I1) ∈ _ from by simp); have c7 := HS.out.at_ (show (r, 1, .int .i64 I2) ∈ _ from by simp)
        go_upto_region 7 with (go_at_call 36; (first | (with_reducible refine (KI.out _).mono ?_; rintro e w6 ⟨rfl, hb6⟩) | (with_reducible refine (KD.out _).mono ?_; rintro e w6 ⟨rfl, hb6⟩)); have hN := HS.out.step hb6; clear c0 c1 c2 c3 c4 c5 c6 c7 HS; have HS := Lib.hid hN; clear hN; have c0 := HS.out.at_ (show (g, 0, .int .i64 R1) ∈ _ from by simp); have c1 := HS.out.at_ (show (g, 1, .int .i64 R2) ∈ _ from by simp); have c2 := HS.out.at_ (show (q, 0, .int .i64 D1) ∈ _ from by simp); have c3 := HS.out.at_ (show (q, 1, .int .i64 D2) ∈ _ from by simp); have c4 := HS.out.at_ (show (p, 0, .int .i64 P1) ∈ _ from by simp); have c5 := HS.out.at_ (show (p, 1, .int .i64 P2) ∈ _ from by simp); have c6 := HS.out.at_ (show (r, 0, .int .i64 I1) ∈ _ from by simp); have c7 := HS.out.at_ (show (r, 1, .int .i64 I2) ∈ _ from by simp))
        go_wp2_with fail
        clear KI KD c0 c1 c2 c3 c4 c5 c6 c7
        go_loopw [22] (fun i wr => ∃ k : Nat, k ≤ 9 ∧ i = .int .i64 k ∧ Hid (Cs w wc.heap.size [(g, 0, .int .i64 R1), (g, 1, .int .i64 R2), (q, 0, .int .i64 D1), (q, 1, .int .i64 D2), (p, 0, .int .i64 P1), (p, 1, .int .i64 P2), (r, 0, .int .i64 I1), (r, 1, .int .i64 I2)] wr)) (fun i _ => 9 - (intOf i).toNat)
        case atStart => exact ⟨0, by omega, rfl, HS⟩
        case round =>
          obtain ⟨k, hk, rfl, HW⟩ := hrel
          clear HS
          have c0 := HW.out.at_ (show (g, 0, .int .i64 R1) ∈ _ from by simp); have c1 := HW.out.at_ (show (g, 1, .int .i64 R2) ∈ _ from by simp); have c2 := HW.out.at_ (show (q, 0, .int .i64 D1) ∈ _ from by simp); have c3 := HW.out.at_ (show (q, 1, .int .i64 D2) ∈ _ from by simp); have c4 := HW.out.at_ (show (p, 0, .int .i64 P1) ∈ _ from by simp); have c5 := HW.out.at_ (show (p, 1, .int .i64 P2) ∈ _ from by simp); have c6 := HW.out.at_ (show (r, 0, .int .i64 I1) ∈ _ from by simp); have c7 := HW.out.at_ (show (r, 1, .int .i64 I2) ∈ _ from by simp)
          have kB := HW.out.bel
          by_cases hlt : k < 9
          · have V1 := Lib.hid (fun w => W1.out k w)
            have V2 := Lib.hid (fun w => W2.out k w)
            have VL := WL.out k
            clear W1 W2 WL
            generalize workS (k : Int) (I1, I2) (D1, D2) n (d0 + 1) = v at *
            generalize workS (k : Int) (P1, P2) (R1, R2) n (d0 + 1) = u at *
            obtain ⟨⟨v1, v2⟩, e⟩ := v
            obtain ⟨⟨u1, u2⟩, f⟩ := u
            have KV := Lib.hid (fun w => Inside_any (v1, v2) (u1, u2) w)
            obtain ⟨t1, t2⟩ := VL
            dsimp only at *
            by_cases he : e = 0 <;> by_cases hf : f = 0
            · subst he
              subst hf
              rw [t1 rfl rfl] at KV
              clear t1 t2
              go_wp2_with (first | (go_at_call 37; (with_reducible refine (V1.out _).mono ?_); rintro e w6 ⟨rfl, hb6⟩; have hN := HW.out.step hb6; clear c0 c1 c2 c3 c4 c5 c6 c7; clear HW; have HW := Lib.hid hN; clear hN; have c0 := HW.out.at_ (show (g, 0, .int .i64 R1) ∈ _ from by simp); have c1 := HW.out.at_ (show (g, 1, .int .i64 R2) ∈ _ from by simp); have c2 := HW.out.at_ (show (q, 0, .int .i64 D1) ∈ _ from by simp); have c3 := HW.out.at_ (show (q, 1, .int .i64 D2) ∈ _ from by simp); have c4 := HW.out.at_ (show (p, 0, .int .i64 P1) ∈ _ from by simp); have c5 := HW.out.at_ (show (p, 1, .int .i64 P2) ∈ _ from by simp); have c6 := HW.out.at_ (show (r, 0, .int .i64 I1) ∈ _ from by simp); have c7 := HW.out.at_ (show (r, 1, .int .i64 I2) ∈ _ from by simp); have hl0 := cell_lt c0; have hl1 := cell_lt c2; have hl2 := cell_lt c4; have hl3 := cell_lt c6) | (go_at_call 37; (with_reducible refine (V2.out _).mono ?_); rintro e w7 ⟨rfl, hb7⟩; have z1 : w7.cell? ⟨w6.heap.size, 0, none⟩ = some (.int .i64 v1) := cell_step (by go_simp) hb7; have z2 : w7.cell? ⟨w6.heap.size, 1, none⟩ = some (.int .i64 v2) := cell_step (by go_simp) hb7; have hz : w6.heap.size < w7.heap.size := cell_lt z1; have hN := (HW.out.step bAl).step hb7; clear hl0 hl1 hl2 hl3; clear c0 c1 c2 c3 c4 c5 c6 c7; clear HW; have HW := Lib.hid hN; clear hN; have c0 := HW.out.at_ (show (g, 0, .int .i64 R1) ∈ _ from by simp); have c1 := HW.out.at_ (show (g, 1, .int .i64 R2) ∈ _ from by simp); have c2 := HW.out.at_ (show (q, 0, .int .i64 D1) ∈ _ from by simp); have c3 := HW.out.at_ (show (q, 1, .int .i64 D2) ∈ _ from by simp); have c4 := HW.out.at_ (show (p, 0, .int .i64 P1) ∈ _ from by simp); have c5 := HW.out.at_ (show (p, 1, .int .i64 P2) ∈ _ from by simp); have c6 := HW.out.at_ (show (r, 0, .int .i64 I1) ∈ _ from by simp); have c7 := HW.out.at_ (show (r, 1, .int .i64 I2) ∈ _ from by simp); have hl0 := cell_lt c0; have hl1 := cell_lt c2; have hl2 := cell_lt c4; have hl3 := cell_lt c6) | (go_at_call 36; (with_reducible refine (KV.out _).mono ?_); rintro e w8 ⟨rfl, hb8⟩; have hN := (HW.out.step bAl).step hb8; clear HW; have HW := Lib.hid hN; clear hN))
              go_roundw
              case rel => exact ⟨k + 1, by omega, by go_num, HW⟩
              case measure => (simp [intOf]; omega)
            · subst he
              clear t1 t2 KV
              go_wp2_with (first | (go_at_call 37; (with_reducible refine (V1.out _).mono ?_); rintro e w6 ⟨rfl, hb6⟩; have hN := HW.out.step hb6; clear c0 c1 c2 c3 c4 c5 c6 c7; clear HW; have HW := Lib.hid hN; clear hN; have c0 := HW.out.at_ (show (g, 0, .int .i64 R1) ∈ _ from by simp); have c1 := HW.out.at_ (show (g, 1, .int .i64 R2) ∈ _ from by simp); have c2 := HW.out.at_ (show (q, 0, .int .i64 D1) ∈ _ from by simp); have c3 := HW.out.at_ (show (q, 1, .int .i64 D2) ∈ _ from by simp); have c4 := HW.out.at_ (show (p, 0, .int .i64 P1) ∈ _ from by simp); have c5 := HW.out.at_ (show (p, 1, .int .i64 P2) ∈ _ from by simp); have c6 := HW.out.at_ (show (r, 0, .int .i64 I1) ∈ _ from by simp); have c7 := HW.out.at_ (show (r, 1, .int .i64 I2) ∈ _ from by simp); have hl0 := cell_lt c0; have hl1 := cell_lt c2; have hl2 := cell_lt c4; have hl3 := cell_lt c6) | (go_at_call 37; (with_reducible refine (V2.out _).mono ?_); rintro e w7 ⟨rfl, hb7⟩; have z1 : w7.cell? ⟨w6.heap.size, 0, none⟩ = some (.int .i64 v1) := cell_step (by go_simp) hb7; have z2 : w7.cell? ⟨w6.heap.size, 1, none⟩ = some (.int .i64 v2) := cell_step (by go_simp) hb7; have hz : w6.heap.size < w7.heap.size := cell_lt z1; have hN := (HW.out.step bAl).step hb7; clear hl0 hl1 hl2 hl3; clear c0 c1 c2 c3 c4 c5 c6 c7; clear HW; have HW := Lib.hid hN; clear hN; have c0 := HW.out.at_ (show (g, 0, .int .i64 R1) ∈ _ from by simp); have c1 := HW.out.at_ (show (g, 1, .int .i64 R2) ∈ _ from by simp); have c2 := HW.out.at_ (show (q, 0, .int .i64 D1) ∈ _ from by simp); have c3 := HW.out.at_ (show (q, 1, .int .i64 D2) ∈ _ from by simp); have c4 := HW.out.at_ (show (p, 0, .int .i64 P1) ∈ _ from by simp); have c5 := HW.out.at_ (show (p, 1, .int .i64 P2) ∈ _ from by simp); have c6 := HW.out.at_ (show (r, 0, .int .i64 I1) ∈ _ from by simp); have c7 := HW.out.at_ (show (r, 1, .int .i64 I2) ∈ _ from by simp); have hl0 := cell_lt c0; have hl1 := cell_lt c2; have hl2 := cell_lt c4; have hl3 := cell_lt c6))
              go_roundw
              case rel => exact ⟨k + 1, by omega, by go_num, Lib.hid (HW.out.step bAl)⟩
              case measure => (simp [intOf]; omega)
            · subst hf
              obtain ⟨hk6, rfl⟩ := t2 rfl he
              obtain rfl : k = 6 := by omega
              clear t1 t2 KV he hk6
              have e6 : ((6 : Nat) : Int) = 6 := rfl
              rw [e6] at V1 V2
              clear e6
              go_wp2_with (first | (go_at_call 37; (with_reducible refine (V1.out _).mono ?_); rintro e w6 ⟨rfl, hb6⟩; have hN := HW.out.step hb6; clear c0 c1 c2 c3 c4 c5 c6 c7; clear HW; have HW := Lib.hid hN; clear hN; have c0 := HW.out.at_ (show (g, 0, .int .i64 R1) ∈ _ from by simp); have c1 := HW.out.at_ (show (g, 1, .int .i64 R2) ∈ _ from by simp); have c2 := HW.out.at_ (show (q, 0, .int .i64 D1) ∈ _ from by simp); have c3 := HW.out.at_ (show (q, 1, .int .i64 D2) ∈ _ from by simp); have c4 := HW.out.at_ (show (p, 0, .int .i64 P1) ∈ _ from by simp); have c5 := HW.out.at_ (show (p, 1, .int .i64 P2) ∈ _ from by simp); have c6 := HW.out.at_ (show (r, 0, .int .i64 I1) ∈ _ from by simp); have c7 := HW.out.at_ (show (r, 1, .int .i64 I2) ∈ _ from by simp); have hl0 := cell_lt c0; have hl1 := cell_lt c2; have hl2 := cell_lt c4; have hl3 := cell_lt c6) | (go_at_call 37; (with_reducible refine (V2.out _).mono ?_); rintro e w7 ⟨rfl, hb7⟩; have z1 : w7.cell? ⟨w6.heap.size, 0, none⟩ = some (.int .i64 v1) := cell_step (by go_simp) hb7; have z2 : w7.cell? ⟨w6.heap.size, 1, none⟩ = some (.int .i64 v2) := cell_step (by go_simp) hb7; have hz : w6.heap.size < w7.heap.size := cell_lt z1; have hN := (HW.out.step bAl).step hb7; clear hl0 hl1 hl2 hl3; clear c0 c1 c2 c3 c4 c5 c6 c7; clear HW; have HW := Lib.hid hN; clear hN; have c0 := HW.out.at_ (show (g, 0, .int .i64 R1) ∈ _ from by simp); have c1 := HW.out.at_ (show (g, 1, .int .i64 R2) ∈ _ from by simp); have c2 := HW.out.at_ (show (q, 0, .int .i64 D1) ∈ _ from by simp); have c3 := HW.out.at_ (show (q, 1, .int .i64 D2) ∈ _ from by simp); have c4 := HW.out.at_ (show (p, 0, .int .i64 P1) ∈ _ from by simp); have c5 := HW.out.at_ (show (p, 1, .int .i64 P2) ∈ _ from by simp); have c6 := HW.out.at_ (show (r, 0, .int .i64 I1) ∈ _ from by simp); have c7 := HW.out.at_ (show (r, 1, .int .i64 I2) ∈ _ from by simp); have hl0 := cell_lt c0; have hl1 := cell_lt c2; have hl2 := cell_lt c4; have hl3 := cell_lt c6))
              go_roundw
              case rel => exact ⟨7, by omega, by go_num, Lib.hid (HW.out.step bAl)⟩
              case measure => (simp [intOf])
            · clear t1 t2 KV
              go_wp2_with (first | (go_at_call 37; (with_reducible refine (V1.out _).mono ?_); rintro e w6 ⟨rfl, hb6⟩; have hN := HW.out.step hb6; clear c0 c1 c2 c3 c4 c5 c6 c7; clear HW; have HW := Lib.hid hN; clear hN; have c0 := HW.out.at_ (show (g, 0, .int .i64 R1) ∈ _ from by simp); have c1 := HW.out.at_ (show (g, 1, .int .i64 R2) ∈ _ from by simp); have c2 := HW.out.at_ (show (q, 0, .int .i64 D1) ∈ _ from by simp); have c3 := HW.out.at_ (show (q, 1, .int .i64 D2) ∈ _ from by simp); have c4 := HW.out.at_ (show (p, 0, .int .i64 P1) ∈ _ from by simp); have c5 := HW.out.at_ (show (p, 1, .int .i64 P2) ∈ _ from by simp); have c6 := HW.out.at_ (show (r, 0, .int .i64 I1) ∈ _ from by simp); have c7 := HW.out.at_ (show (r, 1, .int .i64 I2) ∈ _ from by simp); have hl0 := cell_lt c0; have hl1 := cell_lt c2; have hl2 := cell_lt c4; have hl3 := cell_lt c6) | (go_at_call 37; (with_reducible refine (V2.out _).mono ?_); rintro e w7 ⟨rfl, hb7⟩; have z1 : w7.cell? ⟨w6.heap.size, 0, none⟩ = some (.int .i64 v1) := cell_step (by go_simp) hb7; have z2 : w7.cell? ⟨w6.heap.size, 1, none⟩ = some (.int .i64 v2) := cell_step (by go_simp) hb7; have hz : w6.heap.size < w7.heap.size := cell_lt z1; have hN := (HW.out.step bAl).step hb7; clear hl0 hl1 hl2 hl3; clear c0 c1 c2 c3 c4 c5 c6 c7; clear HW; have HW := Lib.hid hN; clear hN; have c0 := HW.out.at_ (show (g, 0, .int .i64 R1) ∈ _ from by simp); have c1 := HW.out.at_ (show (g, 1, .int .i64 R2) ∈ _ from by simp); have c2 := HW.out.at_ (show (q, 0, .int .i64 D1) ∈ _ from by simp); have c3 := HW.out.at_ (show (q, 1, .int .i64 D2) ∈ _ from by simp); have c4 := HW.out.at_ (show (p, 0, .int .i64 P1) ∈ _ from by simp); have c5 := HW.out.at_ (show (p, 1, .int .i64 P2) ∈ _ from by simp); have c6 := HW.out.at_ (show (r, 0, .int .i64 I1) ∈ _ from by simp); have c7 := HW.out.at_ (show (r, 1, .int .i64 I2) ∈ _ from by simp); have hl0 := cell_lt c0; have hl1 := cell_lt c2; have hl2 := cell_lt c4; have hl3 := cell_lt c6))
              go_roundw
              case rel => exact ⟨k + 1, by omega, by go_num, Lib.hid (HW.out.step bAl)⟩
              case measure => (simp [intOf]; omega)
          · clear W1 W2 WL HW
            go_wp2_with (go_at_call 18; refine (works_any _).mono ?_; rintro e w8 ⟨rfl, hb8⟩)
            go_ret
            exact ⟨rfl, (by repeat' (first | exact Below.refl _ _ | assumption | apply bDrewN | apply bDrew | apply bAlloc | (refine bSet ?_ ?_ _) | (refine bStep ?_ (by assumption)) | omega | (simp <;> omega)))⟩

end Go.Proofs.Ytjnllfebeeiilaa
