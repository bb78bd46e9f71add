/-
  ProtectPlant: for every lag and faults, and whatever acts it gets, the program's plant shows and moves as the reference's plant does, and a copy goes on alike, and apart: for every lag, list of faults, list of moves and place of the copy the call returns true, and nothing that was in memory changes. No condition.
-/
import Derived.Test.YtladkknbkgomfaaG19Plant
import Derived.Test.YtladkknbkgomfaaRows
import Derived.ProofKit
import Derived.OpenShut
import Derived.KernelRfl
set_option linter.unusedSimpArgs false
set_option linter.unusedVariables false
namespace Go.Proofs.Ytladkknbkgomfaa
open Go.ChangeShapes Go.WideShapes Go.ChangeAt Go.RowKit

open Sx Mr
theorem ProtectPlant_walk (lag : Int) (l : List Brk) (cB : Nat) (aB : Option Addr) (ml : List Mv) (cM : Nat) (aM : Option Addr) (at_ : Nat) (w : World) (hB : BkAt aB l w) (hM : MvAt aM ml w) (hat : at_ < 256) :
    Calls Try.prog 3 #[.int .i64 lag, .slice aB l.length cB, .slice aM ml.length cM, .int .u8 (at_ : Int)] w fun e w' => e = .returned (.bool true) ∧ Below w.heap.size w w' := Plant_walk lag l cB aB ml cM aM at_ w hB hM hat
theorem protectPlant_own : ownKnob Try.prog.godebug = none := by kernel_rfl
theorem protectPlant_laidOut : laidOutB Try.prog = true := by kernel_rfl
set_option maxRecDepth 100000 in
theorem protectPlant_lifted (os : Os) (started : os.Started) (H : Type) (enc : TypeId × Value → H) :
    ReturnsInHanded {} Try.checked os 3 .any (Rows.protectPlantSpec.pre6 enc Try.prog Try.f3 Rows.protectPlantRow.domain false) (Rows.protectPlantSpec.post enc Try.prog Try.f3 false true false false) := by
  refine returnsInHanded_of_change (C := Try.checked) protectPlant_own started (by kernel_rfl) Try.func3
    (ChangeSpec.witness6 (enc := enc) (C := Try.checked) false ⟨#[], #[.int .i64 0, .slice none 0 0, .slice none 0 0, .int .u8 0], []⟩ 8 (by kernel_rfl) (by kernel_rfl) (by kernel_rfl) (by kernel_rfl)) ?_
  intro W base args ds gs before hval0 hW hcnd _
  have hval : ∀ (j : Nat) t v, Try.f3.params[j]? = some t → args[j]? = some v → Value.okWide Try.prog W .any base t v := hval0
  have hW' := hW
  obtain ⟨p, q, hA0, hV, rfl, hfz, hnd⟩ := hW
  have hA : DataW.TrodAll enc Try.prog W 0 (fun _ => true) true Try.f3.params.toList args.toList ds p := hA0
  rw [Try.params3] at hA hval
  obtain ⟨v0, vs0, d0, ds0, p0, q0, hargs, rfl, rfl, h0, r0⟩ := trodAll_cons hA
  obtain ⟨v1, vs1, d1, ds1, p1, q1, rfl, rfl, rfl, h1, r1⟩ := trodAll_cons r0
  obtain ⟨v2, vs2, d2, ds2, p2, q2, rfl, rfl, rfl, h2, r2⟩ := trodAll_cons r1
  obtain ⟨v3, vs3, d3, ds3, p3, q3, rfl, rfl, rfl, h3, r3⟩ := trodAll_cons r2
  obtain ⟨rfl, rfl, rfl⟩ := trodAll_nil r3
  obtain rfl : args = #[v0, v1, v2, v3] := by cases args; simp_all
  obtain ⟨rfl, rfl⟩ := trodVars_none hV
  have k0 := h0
  have lt0 : ∀ x ∈ p0, x.block < W.heap.size := by obtain ⟨m, hm⟩ := k0; exact DataW.trod_lt m _ _ _ hm
  obtain ⟨a0, e0, -, -, w0⟩ := open_int Try.underlying3 (hval 0 3 v0 rfl rfl) h0
  subst e0
  have k1 := h1
  have lt1 : ∀ x ∈ p1, x.block < W.heap.size := by obtain ⟨m, hm⟩ := k1; exact DataW.trod_lt m _ _ _ hm
  obtain ⟨a1_a, a1_len, a1_cap, e1⟩ := okWide_slice Try.underlying22 (hval 1 22 v1 rfl rfl)
  subst e1
  obtain ⟨m1, t1⟩ := h1
  obtain ⟨a1, c1, l1, ev1, hA1⟩ := breaks_open t1
  simp only [Value.slice.injEq] at ev1
  obtain ⟨rfl, rfl, rfl⟩ := ev1
  have k2 := h2
  have lt2 : ∀ x ∈ p2, x.block < W.heap.size := by obtain ⟨m, hm⟩ := k2; exact DataW.trod_lt m _ _ _ hm
  obtain ⟨a2_a, a2_len, a2_cap, e2⟩ := okWide_slice Try.underlying23 (hval 2 23 v2 rfl rfl)
  subst e2
  obtain ⟨m2, t2⟩ := h2
  obtain ⟨a2, c2, l2, ev2, hA2⟩ := moves_open t2
  simp only [Value.slice.injEq] at ev2
  obtain ⟨rfl, rfl, rfl⟩ := ev2
  have k3 := h3
  have lt3 : ∀ x ∈ p3, x.block < W.heap.size := by obtain ⟨m, hm⟩ := k3; exact DataW.trod_lt m _ _ _ hm
  obtain ⟨z3, e3, -, -, w3⟩ := open_int Try.underlying5 (hval 3 5 v3 rfl rfl) h3
  subst e3
  obtain ⟨a3, rfl, u3⟩ := wf_u8d w3
  clear hA0 hval0
  refine (ProtectPlant_walk a0 l1 _ _ l2 _ _ a3 W hA1 hA2 u3   ).mono fun e W' ⟨he, bel⟩ => ?_
  subst he
  exact ⟨_, rfl, _, _, _, [], _, [], hW', trodAll_mk1 (shut_bool Try.underlying4 _), (trodAll_cons_mk (Below.trod protectPlant_laidOut (by kernel_rfl) (of_decide_eq_true (by kernel_rfl)) k0 bel lt0) (trodAll_cons_mk (Below.trod protectPlant_laidOut (by kernel_rfl) (of_decide_eq_true (by kernel_rfl)) k1 bel lt1) (trodAll_cons_mk (Below.trod protectPlant_laidOut (by kernel_rfl) (of_decide_eq_true (by kernel_rfl)) k2 bel lt2) (trodAll_cons_mk (Below.trod protectPlant_laidOut (by kernel_rfl) (of_decide_eq_true (by kernel_rfl)) k3 bel lt3) trodAll_mk0)))), rfl, bel.frame _, fun h => by cases h⟩

theorem ProtectPlant_proved : Rows.ProtectPlantSaid :=
  OpenClaim.holds_of_wide 3 Try.f3 rfl rfl rfl rfl rfl rfl rfl ⟨rfl, rfl, rfl, rfl, rfl⟩ rfl rfl rfl rfl rfl (by kernel_rfl) Try.func3 (by kernel_rfl)
    (of_decide_eq_true (by kernel_rfl)) (by unfold Func.isWrapper; first | (rw [if_pos (by decide +kernel)]; kernel_rfl) | (rw [if_neg (by decide +kernel)]; exact ⟨rfl, rfl⟩))
    (fun os started H enc _ => protectPlant_lifted os started H enc)
end Go.Proofs.Ytladkknbkgomfaa
