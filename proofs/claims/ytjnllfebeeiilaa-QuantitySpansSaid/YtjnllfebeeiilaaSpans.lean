/-
  QuantitySpans: for all spans and numbers, each function of spans returns what the reference returns: the call returns true, and nothing that was in memory changes. No condition.
-/
import Derived.Test.YtjnllfebeeiilaaL3
import Derived.Test.YtjnllfebeeiilaaOpen
import Derived.ProofKit
import Derived.OpenShut
set_option linter.unusedSimpArgs false
set_option linter.unusedVariables false
namespace Go.Proofs.Ytjnllfebeeiilaa
open Go.ChangeShapes Go.WideShapes Go.ChangeAt Go.RowKit

theorem QuantitySpans_cells : Try.prog.cellsOf 27 = 2 := by kernel_rfl
theorem QuantitySpans_cells2 : Try.prog.cellsOf 2 = 1 := by kernel_rfl
theorem QuantitySpans_cells3 : Try.prog.cellsOf 60 = 7 := by kernel_rfl
theorem QuantitySpans_walk (a1 a2 b1 b2 n d x : Int) (w : World) :
    Calls Try.prog 9 #[.agg #[.int .i64 a1, .int .i64 a2, .int .i64 b1, .int .i64 b2, .int .i64 n, .int .i64 d, .int .i64 x]] w fun e w' => e = .returned (.bool true) ∧ Below w.heap.size w w' :=
  Spans_core (a1, a2) (b1, b2) n d x w

theorem quantitySpans_own : ownKnob Try.prog.godebug = none := by kernel_rfl
theorem quantitySpans_laidOut : laidOutB Try.prog = true := by kernel_rfl
set_option maxRecDepth 100000 in
theorem quantitySpans_lifted (os : Os) (started : os.Started) (H : Type) (enc : TypeId × Value → H) :
    ReturnsInHanded {} Try.checked os 9 .any (Rows.quantitySpansSpec.pre6 enc Try.prog Try.f9 Rows.quantitySpansRow.domain false) (Rows.quantitySpansSpec.post enc Try.prog Try.f9 false true false false) := by
  refine returnsInHanded_of_change (C := Try.checked) quantitySpans_own started (by kernel_rfl) Try.func9
    (ChangeSpec.witness6 (enc := enc) (C := Try.checked) false ⟨#[], #[.agg #[.int .i64 0, .int .i64 0, .int .i64 0, .int .i64 0, .int .i64 0, .int .i64 0, .int .i64 0]], []⟩ 8 (by kernel_rfl) (by kernel_rfl) (by kernel_rfl) (by kernel_rfl)) ?_
  intro W base args ds gs before hval0 hW hcnd _
  have hval : ∀ (j : Nat) t v, Try.f9.params[j]? = some t → args[j]? = some v → Value.okWide Try.prog W .any base t v := hval0
  have hW' := hW
  obtain ⟨p, q, hA0, hV, rfl, hfz, hnd⟩ := hW
  have hA : DataW.TrodAll enc Try.prog W 0 (fun _ => true) true Try.f9.params.toList args.toList ds p := hA0
  rw [Try.params9] at hA hval
  obtain ⟨v0, vs0, d0, ds0, p0, q0, hargs, rfl, rfl, h0, r0⟩ := trodAll_cons hA
  obtain ⟨rfl, rfl, rfl⟩ := trodAll_nil r0
  obtain rfl : args = #[v0] := by cases args; simp_all
  obtain ⟨rfl, rfl⟩ := trodVars_none hV
  have k0 := h0
  have lt0 : ∀ x ∈ p0, x.block < W.heap.size := by obtain ⟨m, hm⟩ := k0; exact DataW.trod_lt m _ _ _ hm
  obtain ⟨cs, e0, hsz⟩ := okWide_struct Try.underlying60 (hval 0 60 v0 rfl rfl)
  obtain ⟨c0, c1, c2, c3, c4, c5, c6, rfl⟩ := array7 (hsz.trans QuantitySpans_cells3)
  subst e0
  obtain ⟨fuel, hf⟩ := h0
  have s0 := trod_at Try.underlying60 ⟨fuel, _, hf⟩ 0 27 0 2 rfl QuantitySpans_cells
  have s1 := trod_at Try.underlying60 ⟨fuel, _, hf⟩ 1 27 2 2 rfl QuantitySpans_cells
  have s2 := trod_at Try.underlying60 ⟨fuel, _, hf⟩ 2 2 4 1 rfl QuantitySpans_cells2
  have s3 := trod_at Try.underlying60 ⟨fuel, _, hf⟩ 3 2 5 1 rfl QuantitySpans_cells2
  have s4 := trod_at Try.underlying60 ⟨fuel, _, hf⟩ 4 2 6 1 rfl QuantitySpans_cells2
  have s00 := trod_at Try.underlying27 s0 0 2 0 1 rfl QuantitySpans_cells2
  have s01 := trod_at Try.underlying27 s0 1 2 1 1 rfl QuantitySpans_cells2
  have s10 := trod_at Try.underlying27 s1 0 2 0 1 rfl QuantitySpans_cells2
  have s11 := trod_at Try.underlying27 s1 1 2 1 1 rfl QuantitySpans_cells2
  simp only [Value.cells, List.drop_zero, List.drop_succ_cons, List.take_succ_cons, List.take_zero] at s00 s01 s10 s11 s2 s3 s4
  obtain ⟨a1, g0, _⟩ := trod_leaf Try.underlying2 s00
  obtain ⟨a2, g1, _⟩ := trod_leaf Try.underlying2 s01
  obtain ⟨b1, g2, _⟩ := trod_leaf Try.underlying2 s10
  obtain ⟨b2, g3, _⟩ := trod_leaf Try.underlying2 s11
  obtain ⟨n, g4, _⟩ := trod_leaf Try.underlying2 s2
  obtain ⟨d, g5, _⟩ := trod_leaf Try.underlying2 s3
  obtain ⟨x, g6, _⟩ := trod_leaf Try.underlying2 s4
  simp only [List.cons.injEq, and_true] at g0 g1 g2 g3 g4 g5 g6
  subst g0 g1 g2 g3 g4 g5 g6
  clear hA0 hval0
  refine (QuantitySpans_walk a1 a2 b1 b2 n d x W).mono fun e W' ⟨he, bel⟩ => ?_
  subst he
  exact ⟨_, rfl, _, _, _, [], _, [], hW', trodAll_mk1 (shut_bool Try.underlying4 _), (trodAll_cons_mk (Below.trod quantitySpans_laidOut (by kernel_rfl) (of_decide_eq_true (by kernel_rfl)) k0 bel lt0) trodAll_mk0), rfl, bel.frame _, fun h => by cases h⟩

theorem QuantitySpans_proved : Rows.QuantitySpansSaid :=
  OpenClaim.holds_of_wide 9 Try.f9 rfl rfl rfl rfl rfl rfl rfl ⟨rfl, rfl, rfl, rfl, rfl⟩ rfl rfl rfl rfl rfl (by kernel_rfl) Try.func9 (by kernel_rfl)
    (of_decide_eq_true (by kernel_rfl)) (by unfold Func.isWrapper; first | (rw [if_pos (by decide +kernel)]; kernel_rfl) | (rw [if_neg (by decide +kernel)]; exact ⟨rfl, rfl⟩))
    (fun os started H enc _ => quantitySpans_lifted os started H enc)
end Go.Proofs.Ytjnllfebeeiilaa
