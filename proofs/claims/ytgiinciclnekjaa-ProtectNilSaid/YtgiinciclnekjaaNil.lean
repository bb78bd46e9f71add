/-
  ProtectNil: what is not valid answers as the rules say: for all signals, truths and acts the call returns true, and nothing that was in memory changes. No condition.
-/
import Derived.Test.YtgiinciclnekjaaWt5
import Derived.Test.YtgiinciclnekjaaRows
import Derived.ProofKit
import Derived.OpenShut
import Derived.KernelRfl
set_option linter.unusedSimpArgs false
set_option linter.unusedVariables false
namespace Go.Proofs.Ytgiinciclnekjaa
open Go.ChangeShapes Go.WideShapes Go.ChangeAt Go.RowKit

open Sx
def ls_sig : List Lf := [.b, .i .i64, .i .i64, .i .i64, .i .i64, .i .i64, .b, .i .i64, .i .i64, .i .i64, .i .i64, .i .i64, .b, .i .i64, .i .i64, .i .i64, .i .i64, .i .i64, .b, .b, .b, .b, .b, .b, .b, .b, .b, .i .i64, .i .i64, .b, .b]
def ls_tru : List Lf := [.i .i64, .i .i64, .i .i64, .i .i64, .i .i64, .i .i64, .i .i64, .i .i64, .i .i64, .i .i64, .i .i64, .i .i64, .i .i64, .i .i64, .i .i64, .i .i64, .i .i64, .i .i64, .i .i64, .i .i64, .i .i64, .i .i64, .i .i64, .i .i64, .i .i64, .b, .b, .i .i64, .i .i64, .b, .b]
def ls_act : List Lf := [.b, .b, .b, .b]
theorem nil_eval (b0 : Nat → Bool) (n0 : Nat → Int) (b1 : Nat → Bool) (n1 : Nat → Int) (b2 : Nat → Bool) (n2 : Nat → Int) :
    okT (evFn tbl wr5 (spTrue 16) 300 12 9 [.agg (symL b0 n0 0 ls_sig), .agg (symL b1 n1 0 ls_tru), .agg (symL b2 n2 0 ls_act)] st0) = true := by kernel_rfl
theorem ProtectNil_walk (b0 : Nat → Bool) (n0 : Nat → Int) (_ : WfL n0 ls_sig) (b1 : Nat → Bool) (n1 : Nat → Int) (_ : WfL n1 ls_tru) (b2 : Nat → Bool) (n2 : Nat → Int) (_ : WfL n2 ls_act) (w : World) :
    Calls Try.prog 9 #[(Sv.agg (symL b0 n0 0 ls_sig)).den env0, (Sv.agg (symL b1 n1 0 ls_tru)).den env0, (Sv.agg (symL b2 n2 0 ls_act)).den env0] w fun e w' => e = .returned (.bool true) ∧ Below w.heap.size w w' :=
  true_any tbl_ok tbl_any (spTrue_ok works5_any) (args := [.agg (symL b0 n0 0 ls_sig), .agg (symL b1 n1 0 ls_tru), .agg (symL b2 n2 0 ls_act)]) (fun x h => by
    simp only [List.mem_cons, List.not_mem_nil, or_false] at h
    rcases h with rfl | rfl | rfl <;> exact symL_free _ _ _ _) (nil_eval b0 n0 b1 n1 b2 n2) w

theorem protectNil_own : ownKnob Try.prog.godebug = none := by kernel_rfl
theorem protectNil_laidOut : laidOutB Try.prog = true := by kernel_rfl
set_option maxRecDepth 100000 in
theorem protectNil_lifted (os : Os) (started : os.Started) (H : Type) (enc : TypeId × Value → H) :
    ReturnsInHanded {} Try.checked os 9 .any (Rows.protectNilSpec.pre6 enc Try.prog Try.f9 Rows.protectNilRow.domain false) (Rows.protectNilSpec.post enc Try.prog Try.f9 false true false false) := by
  refine returnsInHanded_of_change (C := Try.checked) protectNil_own started (by kernel_rfl) Try.func9
    (ChangeSpec.witness6 (enc := enc) (C := Try.checked) false ⟨#[], #[.agg #[.bool false, .int .i64 0, .int .i64 0, .int .i64 0, .int .i64 0, .int .i64 0, .bool false, .int .i64 0, .int .i64 0, .int .i64 0, .int .i64 0, .int .i64 0, .bool false, .int .i64 0, .int .i64 0, .int .i64 0, .int .i64 0, .int .i64 0, .bool false, .bool false, .bool false, .bool false, .bool false, .bool false, .bool false, .bool false, .bool false, .int .i64 0, .int .i64 0, .bool false, .bool false], .agg #[.int .i64 0, .int .i64 0, .int .i64 0, .int .i64 0, .int .i64 0, .int .i64 0, .int .i64 0, .int .i64 0, .int .i64 0, .int .i64 0, .int .i64 0, .int .i64 0, .int .i64 0, .int .i64 0, .int .i64 0, .int .i64 0, .int .i64 0, .int .i64 0, .int .i64 0, .int .i64 0, .int .i64 0, .int .i64 0, .int .i64 0, .int .i64 0, .int .i64 0, .bool false, .bool false, .int .i64 0, .int .i64 0, .bool false, .bool false], .agg #[.bool false, .bool false, .bool false, .bool false]], []⟩ 8 (by kernel_rfl) (by kernel_rfl) (by kernel_rfl) (by kernel_rfl)) ?_
  intro W base args ds gs before hval0 hW hcnd _
  have hval : ∀ (j : Nat) t v, Try.f9.params[j]? = some t → args[j]? = some v → Value.okWide Try.prog W .any base t v := hval0
  have hW' := hW
  obtain ⟨p, q, hA0, hV, rfl, hfz, hnd⟩ := hW
  have hA : DataW.TrodAll enc Try.prog W 0 (fun _ => true) true Try.f9.params.toList args.toList ds p := hA0
  rw [Try.params9] at hA hval
  obtain ⟨v0, vs0, d0, ds0, p0, q0, hargs, rfl, rfl, h0, r0⟩ := trodAll_cons hA
  obtain ⟨v1, vs1, d1, ds1, p1, q1, rfl, rfl, rfl, h1, r1⟩ := trodAll_cons r0
  obtain ⟨v2, vs2, d2, ds2, p2, q2, rfl, rfl, rfl, h2, r2⟩ := trodAll_cons r1
  obtain ⟨rfl, rfl, rfl⟩ := trodAll_nil r2
  obtain rfl : args = #[v0, v1, v2] := by cases args; simp_all
  obtain ⟨rfl, rfl⟩ := trodVars_none hV
  have k0 := h0
  have lt0 : ∀ x ∈ p0, x.block < W.heap.size := by obtain ⟨m, hm⟩ := k0; exact DataW.trod_lt m _ _ _ hm
  obtain ⟨bs0, ns0, e0, w0⟩ := open_sym tbl_ok (d := 20) (ls := ls_sig) (by kernel_rfl) (by kernel_rfl) (hval 0 44 v0 rfl rfl) h0
  subst e0
  have k1 := h1
  have lt1 : ∀ x ∈ p1, x.block < W.heap.size := by obtain ⟨m, hm⟩ := k1; exact DataW.trod_lt m _ _ _ hm
  obtain ⟨bs1, ns1, e1, w1⟩ := open_sym tbl_ok (d := 20) (ls := ls_tru) (by kernel_rfl) (by kernel_rfl) (hval 1 83 v1 rfl rfl) h1
  subst e1
  have k2 := h2
  have lt2 : ∀ x ∈ p2, x.block < W.heap.size := by obtain ⟨m, hm⟩ := k2; exact DataW.trod_lt m _ _ _ hm
  obtain ⟨bs2, ns2, e2, w2⟩ := open_sym tbl_ok (d := 20) (ls := ls_act) (by kernel_rfl) (by kernel_rfl) (hval 2 37 v2 rfl rfl) h2
  subst e2
  clear hA0 hval0
  refine (ProtectNil_walk bs0 ns0 w0 bs1 ns1 w1 bs2 ns2 w2 W).mono fun e W' ⟨he, bel⟩ => ?_
  subst he
  exact ⟨_, rfl, _, _, _, [], _, [], hW', trodAll_mk1 (shut_bool Try.underlying4 _), (trodAll_cons_mk (Below.trod protectNil_laidOut (by kernel_rfl) (of_decide_eq_true (by kernel_rfl)) k0 bel lt0) (trodAll_cons_mk (Below.trod protectNil_laidOut (by kernel_rfl) (of_decide_eq_true (by kernel_rfl)) k1 bel lt1) (trodAll_cons_mk (Below.trod protectNil_laidOut (by kernel_rfl) (of_decide_eq_true (by kernel_rfl)) k2 bel lt2) trodAll_mk0))), rfl, bel.frame _, fun h => by cases h⟩

theorem ProtectNil_proved : Rows.ProtectNilSaid :=
  OpenClaim.holds_of_wide 9 Try.f9 rfl rfl rfl rfl rfl rfl rfl ⟨rfl, rfl, rfl, rfl, rfl⟩ rfl rfl rfl rfl rfl (by kernel_rfl) Try.func9 (by kernel_rfl)
    (of_decide_eq_true (by kernel_rfl)) (by unfold Func.isWrapper; first | (rw [if_pos (by decide +kernel)]; kernel_rfl) | (rw [if_neg (by decide +kernel)]; exact ⟨rfl, rfl⟩))
    (fun os started H enc _ => protectNil_lifted os started H enc)
end Go.Proofs.Ytgiinciclnekjaa
