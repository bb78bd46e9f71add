/-
  QuantityTight: nothing too much: for all small spans both ends of a product, a quotient, a multiple and a square come from ends of the spans, or from 0: the call returns true, and nothing that was in memory changes. No condition.
-/
import Derived.Test.YtjnllfebeeiilaaLTi
import Derived.Test.YtjnllfebeeiilaaBd
import Derived.ProofKit
import Derived.OpenShut
import Derived.Lib.SmallJoins
set_option linter.unusedSimpArgs false
set_option linter.unusedVariables false
namespace Go.Proofs.Ytjnllfebeeiilaa
open Go.ChangeShapes Go.WideShapes Go.ChangeAt Go.RowKit

theorem QuantityTight_walk (lo : Int) (h1 : (Lit.int .i16 lo).wf = true) (ln : Int) (h2 : (Lit.int .i16 ln).wf = true) (at1 : Int) (h3 : (Lit.int .u16 at1).wf = true) (lo' : Int) (g1 : (Lit.int .i16 lo').wf = true) (ln' : Int) (g2 : (Lit.int .i16 ln').wf = true) (at2 : Int) (g3 : (Lit.int .u16 at2).wf = true) (n : Int) (hn : (Lit.int .i16 n).wf = true) (d : Int) (hd : (Lit.int .u16 d).wf = true) (w : World) :
    Calls Try.prog 4 #[.agg #[.int .i16 lo, .int .i16 ln, .int .u16 at1], .agg #[.int .i16 lo', .int .i16 ln', .int .u16 at2], .int .i16 n, .int .u16 d] w fun e w' => e = .returned (.bool true) ∧ Below w.heap.size w w' :=
  tight_core lo ln at1 lo' ln' at2 n d w (in16 h1).1 (in16 h1).2 (in16 h2).1 (in16 h2).2 (in16 g1).1 (in16 g1).2 (in16 g2).1 (in16 g2).2 (in16 hn).1 (in16 hn).2 (inu16 hd).1 (inu16 hd).2

theorem quantityTight_own : ownKnob Try.prog.godebug = none := by kernel_rfl
theorem quantityTight_laidOut : laidOutB Try.prog = true := by kernel_rfl
set_option maxRecDepth 100000 in
theorem quantityTight_lifted (os : Os) (started : os.Started) (H : Type) (enc : TypeId × Value → H) :
    ReturnsInHanded {} Try.checked os 4 .any (Rows.quantityTightSpec.pre6 enc Try.prog Try.f4 Rows.quantityTightRow.domain false) (Rows.quantityTightSpec.post enc Try.prog Try.f4 false true false false) := by
  refine returnsInHanded_of_change (C := Try.checked) quantityTight_own started (by kernel_rfl) Try.func4
    (ChangeSpec.witness6 (enc := enc) (C := Try.checked) false ⟨#[], #[.agg #[.int .i16 0, .int .i16 0, .int .u16 0], .agg #[.int .i16 0, .int .i16 0, .int .u16 0], .int .i16 0, .int .u16 0], []⟩ 8 (by kernel_rfl) (by kernel_rfl) (by kernel_rfl) (by kernel_rfl)) ?_
  intro W base args ds gs before hval0 hW hcnd _
  have hval : ∀ (j : Nat) t v, Try.f4.params[j]? = some t → args[j]? = some v → Value.okWide Try.prog W .any base t v := hval0
  have hW' := hW
  obtain ⟨p, q, hA0, hV, rfl, hfz, hnd⟩ := hW
  have hA : DataW.TrodAll enc Try.prog W 0 (fun _ => true) true Try.f4.params.toList args.toList ds p := hA0
  rw [Try.params4] at hA hval
  obtain ⟨v0, vs0, d0, ds0, p0, q0, hargs, rfl, rfl, h0, r0⟩ := trodAll_cons hA
  obtain ⟨v1, vs1, d1, ds1, p1, q1, rfl, rfl, rfl, h1, r1⟩ := trodAll_cons r0
  obtain ⟨v2, vs2, d2, ds2, p2, q2, rfl, rfl, rfl, h2, r2⟩ := trodAll_cons r1
  obtain ⟨v3, vs3, d3, ds3, p3, q3, rfl, rfl, rfl, h3, r3⟩ := trodAll_cons r2
  obtain ⟨rfl, rfl, rfl⟩ := trodAll_nil r3
  obtain rfl : args = #[v0, v1, v2, v3] := by cases args; simp_all
  obtain ⟨rfl, rfl⟩ := trodVars_none hV
  have k0 := h0
  have lt0 : ∀ x ∈ p0, x.block < W.heap.size := by obtain ⟨m, hm⟩ := k0; exact DataW.trod_lt m _ _ _ hm
  obtain ⟨c0_0, c0_1, c0_2, y0_0, y0_1, y0_2, m0, e0, -, -, g0_0, g0_1, g0_2⟩ := Joins.open_agg3 Try.underlying25 (by kernel_rfl) (show Try.prog.cellsOf 25 = 3 by kernel_rfl) (hval 0 25 v0 rfl rfl) h0
  subst e0
  obtain ⟨a0_0, b0_0, -, w0_0⟩ := DataW.trod_int Try.underlying22 g0_0
  simp only [List.cons.injEq, and_true] at b0_0
  subst b0_0
  obtain ⟨a0_1, b0_1, -, w0_1⟩ := DataW.trod_int Try.underlying22 g0_1
  simp only [List.cons.injEq, and_true] at b0_1
  subst b0_1
  obtain ⟨a0_2, b0_2, -, w0_2⟩ := DataW.trod_int Try.underlying23 g0_2
  simp only [List.cons.injEq, and_true] at b0_2
  subst b0_2
  have k1 := h1
  have lt1 : ∀ x ∈ p1, x.block < W.heap.size := by obtain ⟨m, hm⟩ := k1; exact DataW.trod_lt m _ _ _ hm
  obtain ⟨c1_0, c1_1, c1_2, y1_0, y1_1, y1_2, m1, e1, -, -, g1_0, g1_1, g1_2⟩ := Joins.open_agg3 Try.underlying25 (by kernel_rfl) (show Try.prog.cellsOf 25 = 3 by kernel_rfl) (hval 1 25 v1 rfl rfl) h1
  subst e1
  obtain ⟨a1_0, b1_0, -, w1_0⟩ := DataW.trod_int Try.underlying22 g1_0
  simp only [List.cons.injEq, and_true] at b1_0
  subst b1_0
  obtain ⟨a1_1, b1_1, -, w1_1⟩ := DataW.trod_int Try.underlying22 g1_1
  simp only [List.cons.injEq, and_true] at b1_1
  subst b1_1
  obtain ⟨a1_2, b1_2, -, w1_2⟩ := DataW.trod_int Try.underlying23 g1_2
  simp only [List.cons.injEq, and_true] at b1_2
  subst b1_2
  have k2 := h2
  have lt2 : ∀ x ∈ p2, x.block < W.heap.size := by obtain ⟨m, hm⟩ := k2; exact DataW.trod_lt m _ _ _ hm
  obtain ⟨a2, e2, -, -, w2⟩ := open_int Try.underlying22 (hval 2 22 v2 rfl rfl) h2
  subst e2
  have k3 := h3
  have lt3 : ∀ x ∈ p3, x.block < W.heap.size := by obtain ⟨m, hm⟩ := k3; exact DataW.trod_lt m _ _ _ hm
  obtain ⟨a3, e3, -, -, w3⟩ := open_int Try.underlying23 (hval 3 23 v3 rfl rfl) h3
  subst e3
  clear hA0 hval0
  refine (QuantityTight_walk a0_0 w0_0 a0_1 w0_1 a0_2 w0_2 a1_0 w1_0 a1_1 w1_1 a1_2 w1_2 a2 w2 a3 w3 W).mono fun e W' ⟨he, bel⟩ => ?_
  subst he
  exact ⟨_, rfl, _, _, _, [], _, [], hW', trodAll_mk1 (shut_bool Try.underlying4 _), (trodAll_cons_mk (Below.trod quantityTight_laidOut (by kernel_rfl) (of_decide_eq_true (by kernel_rfl)) k0 bel lt0) (trodAll_cons_mk (Below.trod quantityTight_laidOut (by kernel_rfl) (of_decide_eq_true (by kernel_rfl)) k1 bel lt1) (trodAll_cons_mk (Below.trod quantityTight_laidOut (by kernel_rfl) (of_decide_eq_true (by kernel_rfl)) k2 bel lt2) (trodAll_cons_mk (Below.trod quantityTight_laidOut (by kernel_rfl) (of_decide_eq_true (by kernel_rfl)) k3 bel lt3) trodAll_mk0)))), rfl, bel.frame _, fun h => by cases h⟩

theorem QuantityTight_proved : Rows.QuantityTightSaid :=
  OpenClaim.holds_of_wide 4 Try.f4 rfl rfl rfl rfl rfl rfl rfl ⟨rfl, rfl, rfl, rfl, rfl⟩ rfl rfl rfl rfl rfl (by kernel_rfl) Try.func4 (by kernel_rfl)
    (of_decide_eq_true (by kernel_rfl)) (by unfold Func.isWrapper; first | (rw [if_pos (by decide +kernel)]; kernel_rfl) | (rw [if_neg (by decide +kernel)]; exact ⟨rfl, rfl⟩))
    (fun os started H enc _ => quantityTight_lifted os started H enc)
end Go.Proofs.Ytjnllfebeeiilaa
