/-
  QuantityInner: for all small spans: if spans are inside of others, so are the results of the law's nine computations: the call returns true, and nothing that was in memory changes. No condition.
-/
import Derived.Test.YtjnllfebeeiilaaLIn
import Derived.Test.YtjnllfebeeiilaaBd
import Derived.ProofKit
import Derived.OpenShut
import Derived.Lib.SmallJoins
set_option linter.unusedSimpArgs false
set_option linter.unusedVariables false
namespace Go.Proofs.Ytjnllfebeeiilaa
open Go.ChangeShapes Go.WideShapes Go.ChangeAt Go.RowKit

theorem QuantityInner_walk (loa : Int) (ha1 : (Lit.int .i16 loa).wf = true) (lna : Int) (ha2 : (Lit.int .i16 lna).wf = true) (ata : Int) (ha3 : (Lit.int .u16 ata).wf = true) (lob : Int) (hb1 : (Lit.int .i16 lob).wf = true) (lnb : Int) (hb2 : (Lit.int .i16 lnb).wf = true) (atb : Int) (hb3 : (Lit.int .u16 atb).wf = true) (loc : Int) (hc1 : (Lit.int .i16 loc).wf = true) (lnc : Int) (hc2 : (Lit.int .i16 lnc).wf = true) (atc : Int) (hc3 : (Lit.int .u16 atc).wf = true) (lod : Int) (hd1 : (Lit.int .i16 lod).wf = true) (lnd : Int) (hd2 : (Lit.int .i16 lnd).wf = true) (atd : Int) (hd3 : (Lit.int .u16 atd).wf = true) (n : Int) (hn : (Lit.int .i16 n).wf = true) (d : Int) (hd : (Lit.int .u16 d).wf = true) (w : World) :
    Calls Try.prog 7 #[.agg #[.int .i16 loa, .int .i16 lna, .int .u16 ata], .agg #[.int .i16 lob, .int .i16 lnb, .int .u16 atb], .agg #[.int .i16 loc, .int .i16 lnc, .int .u16 atc], .agg #[.int .i16 lod, .int .i16 lnd, .int .u16 atd], .int .i16 n, .int .u16 d] w fun e w' => e = .returned (.bool true) ∧ Below w.heap.size w w' :=
  inner_core loa lna ata lob lnb atb loc lnc atc lod lnd atd n d w (in16 ha1).1 (in16 ha1).2 (in16 ha2).1 (in16 ha2).2 (in16 hb1).1 (in16 hb1).2 (in16 hb2).1 (in16 hb2).2 (in16 hc1).1 (in16 hc1).2 (in16 hc2).1 (in16 hc2).2 (in16 hd1).1 (in16 hd1).2 (in16 hd2).1 (in16 hd2).2 (in16 hn).1 (in16 hn).2 (inu16 hd).1 (inu16 hd).2

theorem quantityInner_own : ownKnob Try.prog.godebug = none := by kernel_rfl
theorem quantityInner_laidOut : laidOutB Try.prog = true := by kernel_rfl
set_option maxRecDepth 100000 in
theorem quantityInner_lifted (os : Os) (started : os.Started) (H : Type) (enc : TypeId × Value → H) :
    ReturnsInHanded {} Try.checked os 7 .any (Rows.quantityInnerSpec.pre6 enc Try.prog Try.f7 Rows.quantityInnerRow.domain false) (Rows.quantityInnerSpec.post enc Try.prog Try.f7 false true false false) := by
  refine returnsInHanded_of_change (C := Try.checked) quantityInner_own started (by kernel_rfl) Try.func7
    (ChangeSpec.witness6 (enc := enc) (C := Try.checked) false ⟨#[], #[.agg #[.int .i16 0, .int .i16 0, .int .u16 0], .agg #[.int .i16 0, .int .i16 0, .int .u16 0], .agg #[.int .i16 0, .int .i16 0, .int .u16 0], .agg #[.int .i16 0, .int .i16 0, .int .u16 0], .int .i16 0, .int .u16 0], []⟩ 8 (by kernel_rfl) (by kernel_rfl) (by kernel_rfl) (by kernel_rfl)) ?_
  intro W base args ds gs before hval0 hW hcnd _
  have hval : ∀ (j : Nat) t v, Try.f7.params[j]? = some t → args[j]? = some v → Value.okWide Try.prog W .any base t v := hval0
  have hW' := hW
  obtain ⟨p, q, hA0, hV, rfl, hfz, hnd⟩ := hW
  have hA : DataW.TrodAll enc Try.prog W 0 (fun _ => true) true Try.f7.params.toList args.toList ds p := hA0
  rw [Try.params7] at hA hval
  obtain ⟨v0, vs0, d0, ds0, p0, q0, hargs, rfl, rfl, h0, r0⟩ := trodAll_cons hA
  obtain ⟨v1, vs1, d1, ds1, p1, q1, rfl, rfl, rfl, h1, r1⟩ := trodAll_cons r0
  obtain ⟨v2, vs2, d2, ds2, p2, q2, rfl, rfl, rfl, h2, r2⟩ := trodAll_cons r1
  obtain ⟨v3, vs3, d3, ds3, p3, q3, rfl, rfl, rfl, h3, r3⟩ := trodAll_cons r2
  obtain ⟨v4, vs4, d4, ds4, p4, q4, rfl, rfl, rfl, h4, r4⟩ := trodAll_cons r3
  obtain ⟨v5, vs5, d5, ds5, p5, q5, rfl, rfl, rfl, h5, r5⟩ := trodAll_cons r4
  obtain ⟨rfl, rfl, rfl⟩ := trodAll_nil r5
  obtain rfl : args = #[v0, v1, v2, v3, v4, v5] := by cases args; simp_all
  obtain ⟨rfl, rfl⟩ := trodVars_none hV
  have k0 := h0
  have lt0 : ∀ x ∈ p0, x.block < W.heap.size := by obtain ⟨m, hm⟩ := k0; exact DataW.trod_lt m _ _ _ hm
  obtain ⟨c0_0, c0_1, c0_2, y0_0, y0_1, y0_2, m0, e0, -, -, g0_0, g0_1, g0_2⟩ := Joins.open_agg3 Try.underlying25 (by kernel_rfl) (show Try.prog.cellsOf 25 = 3 by kernel_rfl) (hval 0 25 v0 rfl rfl) h0
  subst e0
  obtain ⟨a0_0, b0_0, -, w0_0⟩ := DataW.trod_int Try.underlying22 g0_0
  simp only [List.cons.injEq, and_true] at b0_0
  subst b0_0
  obtain ⟨a0_1, b0_1, -, w0_1⟩ := DataW.trod_int Try.underlying22 g0_1
  simp only [List.cons.injEq, and_true] at b0_1
  subst b0_1
  obtain ⟨a0_2, b0_2, -, w0_2⟩ := DataW.trod_int Try.underlying23 g0_2
  simp only [List.cons.injEq, and_true] at b0_2
  subst b0_2
  have k1 := h1
  have lt1 : ∀ x ∈ p1, x.block < W.heap.size := by obtain ⟨m, hm⟩ := k1; exact DataW.trod_lt m _ _ _ hm
  obtain ⟨c1_0, c1_1, c1_2, y1_0, y1_1, y1_2, m1, e1, -, -, g1_0, g1_1, g1_2⟩ := Joins.open_agg3 Try.underlying25 (by kernel_rfl) (show Try.prog.cellsOf 25 = 3 by kernel_rfl) (hval 1 25 v1 rfl rfl) h1
  subst e1
  obtain ⟨a1_0, b1_0, -, w1_0⟩ := DataW.trod_int Try.underlying22 g1_0
  simp only [List.cons.injEq, and_true] at b1_0
  subst b1_0
  obtain ⟨a1_1, b1_1, -, w1_1⟩ := DataW.trod_int Try.underlying22 g1_1
  simp only [List.cons.injEq, and_true] at b1_1
  subst b1_1
  obtain ⟨a1_2, b1_2, -, w1_2⟩ := DataW.trod_int Try.underlying23 g1_2
  simp only [List.cons.injEq, and_true] at b1_2
  subst b1_2
  have k2 := h2
  have lt2 : ∀ x ∈ p2, x.block < W.heap.size := by obtain ⟨m, hm⟩ := k2; exact DataW.trod_lt m _ _ _ hm
  obtain ⟨c2_0, c2_1, c2_2, y2_0, y2_1, y2_2, m2, e2, -, -, g2_0, g2_1, g2_2⟩ := Joins.open_agg3 Try.underlying25 (by kernel_rfl) (show Try.prog.cellsOf 25 = 3 by kernel_rfl) (hval 2 25 v2 rfl rfl) h2
  subst e2
  obtain ⟨a2_0, b2_0, -, w2_0⟩ := DataW.trod_int Try.underlying22 g2_0
  simp only [List.cons.injEq, and_true] at b2_0
  subst b2_0
  obtain ⟨a2_1, b2_1, -, w2_1⟩ := DataW.trod_int Try.underlying22 g2_1
  simp only [List.cons.injEq, and_true] at b2_1
  subst b2_1
  obtain ⟨a2_2, b2_2, -, w2_2⟩ := DataW.trod_int Try.underlying23 g2_2
  simp only [List.cons.injEq, and_true] at b2_2
  subst b2_2
  have k3 := h3
  have lt3 : ∀ x ∈ p3, x.block < W.heap.size := by obtain ⟨m, hm⟩ := k3; exact DataW.trod_lt m _ _ _ hm
  obtain ⟨c3_0, c3_1, c3_2, y3_0, y3_1, y3_2, m3, e3, -, -, g3_0, g3_1, g3_2⟩ := Joins.open_agg3 Try.underlying25 (by kernel_rfl) (show Try.prog.cellsOf 25 = 3 by kernel_rfl) (hval 3 25 v3 rfl rfl) h3
  subst e3
  obtain ⟨a3_0, b3_0, -, w3_0⟩ := DataW.trod_int Try.underlying22 g3_0
  simp only [List.cons.injEq, and_true] at b3_0
  subst b3_0
  obtain ⟨a3_1, b3_1, -, w3_1⟩ := DataW.trod_int Try.underlying22 g3_1
  simp only [List.cons.injEq, and_true] at b3_1
  subst b3_1
  obtain ⟨a3_2, b3_2, -, w3_2⟩ := DataW.trod_int Try.underlying23 g3_2
  simp only [List.cons.injEq, and_true] at b3_2
  subst b3_2
  have k4 := h4
  have lt4 : ∀ x ∈ p4, x.block < W.heap.size := by obtain ⟨m, hm⟩ := k4; exact DataW.trod_lt m _ _ _ hm
  obtain ⟨a4, e4, -, -, w4⟩ := open_int Try.underlying22 (hval 4 22 v4 rfl rfl) h4
  subst e4
  have k5 := h5
  have lt5 : ∀ x ∈ p5, x.block < W.heap.size := by obtain ⟨m, hm⟩ := k5; exact DataW.trod_lt m _ _ _ hm
  obtain ⟨a5, e5, -, -, w5⟩ := open_int Try.underlying23 (hval 5 23 v5 rfl rfl) h5
  subst e5
  clear hA0 hval0
  refine (QuantityInner_walk a0_0 w0_0 a0_1 w0_1 a0_2 w0_2 a1_0 w1_0 a1_1 w1_1 a1_2 w1_2 a2_0 w2_0 a2_1 w2_1 a2_2 w2_2 a3_0 w3_0 a3_1 w3_1 a3_2 w3_2 a4 w4 a5 w5 W).mono fun e W' ⟨he, bel⟩ => ?_
  subst he
  exact ⟨_, rfl, _, _, _, [], _, [], hW', trodAll_mk1 (shut_bool Try.underlying4 _), (trodAll_cons_mk (Below.trod quantityInner_laidOut (by kernel_rfl) (of_decide_eq_true (by kernel_rfl)) k0 bel lt0) (trodAll_cons_mk (Below.trod quantityInner_laidOut (by kernel_rfl) (of_decide_eq_true (by kernel_rfl)) k1 bel lt1) (trodAll_cons_mk (Below.trod quantityInner_laidOut (by kernel_rfl) (of_decide_eq_true (by kernel_rfl)) k2 bel lt2) (trodAll_cons_mk (Below.trod quantityInner_laidOut (by kernel_rfl) (of_decide_eq_true (by kernel_rfl)) k3 bel lt3) (trodAll_cons_mk (Below.trod quantityInner_laidOut (by kernel_rfl) (of_decide_eq_true (by kernel_rfl)) k4 bel lt4) (trodAll_cons_mk (Below.trod quantityInner_laidOut (by kernel_rfl) (of_decide_eq_true (by kernel_rfl)) k5 bel lt5) trodAll_mk0)))))), rfl, bel.frame _, fun h => by cases h⟩

theorem QuantityInner_proved : Rows.QuantityInnerSaid :=
  OpenClaim.holds_of_wide 7 Try.f7 rfl rfl rfl rfl rfl rfl rfl ⟨rfl, rfl, rfl, rfl, rfl⟩ rfl rfl rfl rfl rfl (by kernel_rfl) Try.func7 (by kernel_rfl)
    (of_decide_eq_true (by kernel_rfl)) (by unfold Func.isWrapper; first | (rw [if_pos (by decide +kernel)]; kernel_rfl) | (rw [if_neg (by decide +kernel)]; exact ⟨rfl, rfl⟩))
    (fun os started H enc _ => quantityInner_lifted os started H enc)
end Go.Proofs.Ytjnllfebeeiilaa
