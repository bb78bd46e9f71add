/-
  ProtectFuses: with currents that are greater in amount a fuse melts not later, with currents up to its rating never: for all ratings, melts and currents the call returns true, and nothing that was in memory changes. No condition.
-/
import Derived.Test.YtgiinciclnekjaaFu
import Derived.Test.YtgiinciclnekjaaRows
import Derived.ProofKit
import Derived.OpenShut
import Derived.KernelRfl
set_option linter.unusedSimpArgs false
set_option linter.unusedVariables false
namespace Go.Proofs.Ytgiinciclnekjaa
open Go.ChangeShapes Go.WideShapes Go.ChangeAt Go.RowKit

theorem lit_wf (k : IntKind) (n : Int) (h : (Lit.int k n).wf = true) : (Lit.int k n).wf = true := h
theorem wf_u16 {n : Int} (h : (Lit.int .u16 n).wf = true) : 0 ≤ n ∧ n ≤ 65535 := by
  simp only [Lit.wf, Bool.and_eq_true, decide_eq_true_eq] at h
  exact h
theorem wf_u32 {n : Int} (h : (Lit.int .u32 n).wf = true) : 0 ≤ n ∧ n ≤ 4294967295 := by
  simp only [Lit.wf, Bool.and_eq_true, decide_eq_true_eq] at h
  exact h
theorem wf_u8 {n : Int} (h : (Lit.int .u8 n).wf = true) : 0 ≤ n ∧ n ≤ 255 := by
  simp only [Lit.wf, Bool.and_eq_true, decide_eq_true_eq] at h
  exact h
theorem wf_i16 {n : Int} (h : (Lit.int .i16 n).wf = true) : -32768 ≤ n ∧ n ≤ 32767 := by
  simp only [Lit.wf, Bool.and_eq_true, decide_eq_true_eq] at h
  exact h
theorem ProtectFuses_walk (r : Int) (hr : (Lit.int .u16 r).wf = true) (m : Int) (hm : (Lit.int .u32 m).wf = true) (a : Option Addr) (c : Nat) (xs : List Int) (hl : xs.length ≤ maxLen) (hx : ∀ j, j < xs.length → (Lit.int .i16 (xs.getD j 0)).wf = true) (w : World) (hA : NumAt .i16 a xs w)
    (b : Option Addr) (d : Nat) (ys : List Int) (hl2 : ys.length ≤ maxLen) (hy : ∀ j, j < ys.length → (Lit.int .u8 (ys.getD j 0)).wf = true) (hB : NumAt .u8 b ys w) :
    Calls Try.prog 6 #[.int .u16 r, .int .u32 m, .slice a xs.length c, .slice b ys.length d] w fun e w' => e = .returned (.bool true) ∧ Below w.heap.size w w' := by
  have out : ∀ (zs : List Int) (j : Nat), ¬ j < zs.length → zs.getD j 0 = 0 := fun zs j h => by rw [List.getD_eq_getElem?_getD, List.getElem?_eq_none (by omega)]; rfl
  refine fuses_core r m a b c d xs ys w (by unfold maxLen at hl; omega) (by unfold maxLen at hl2; omega) (wf_u16 hr).1 (wf_u16 hr).2 (wf_u32 hm).1 (wf_u32 hm).2 (fun j => ?_) (fun j => ?_) hA hB
  · by_cases h : j < xs.length
    · exact wf_i16 (hx j h)
    · rw [out _ _ h]; omega
  · by_cases h : j < ys.length
    · exact wf_u8 (hy j h)
    · rw [out _ _ h]; omega

theorem protectFuses_own : ownKnob Try.prog.godebug = none := by kernel_rfl
theorem protectFuses_laidOut : laidOutB Try.prog = true := by kernel_rfl
set_option maxRecDepth 100000 in
theorem protectFuses_lifted (os : Os) (started : os.Started) (H : Type) (enc : TypeId × Value → H) :
    ReturnsInHanded {} Try.checked os 6 .any (Rows.protectFusesSpec.pre6 enc Try.prog Try.f6 Rows.protectFusesRow.domain false) (Rows.protectFusesSpec.post enc Try.prog Try.f6 false true false false) := by
  refine returnsInHanded_of_change (C := Try.checked) protectFuses_own started (by kernel_rfl) Try.func6
    (ChangeSpec.witness6 (enc := enc) (C := Try.checked) false ⟨#[], #[.int .u16 0, .int .u32 0, .slice none 0 0, .slice none 0 0], []⟩ 8 (by kernel_rfl) (by kernel_rfl) (by kernel_rfl) (by kernel_rfl)) ?_
  intro W base args ds gs before hval0 hW hcnd _
  have hval : ∀ (j : Nat) t v, Try.f6.params[j]? = some t → args[j]? = some v → Value.okWide Try.prog W .any base t v := hval0
  have hW' := hW
  obtain ⟨p, q, hA0, hV, rfl, hfz, hnd⟩ := hW
  have hA : DataW.TrodAll enc Try.prog W 0 (fun _ => true) true Try.f6.params.toList args.toList ds p := hA0
  rw [Try.params6] at hA hval
  obtain ⟨v0, vs0, d0, ds0, p0, q0, hargs, rfl, rfl, h0, r0⟩ := trodAll_cons hA
  obtain ⟨v1, vs1, d1, ds1, p1, q1, rfl, rfl, rfl, h1, r1⟩ := trodAll_cons r0
  obtain ⟨v2, vs2, d2, ds2, p2, q2, rfl, rfl, rfl, h2, r2⟩ := trodAll_cons r1
  obtain ⟨v3, vs3, d3, ds3, p3, q3, rfl, rfl, rfl, h3, r3⟩ := trodAll_cons r2
  obtain ⟨rfl, rfl, rfl⟩ := trodAll_nil r3
  obtain rfl : args = #[v0, v1, v2, v3] := by cases args; simp_all
  obtain ⟨rfl, rfl⟩ := trodVars_none hV
  have k0 := h0
  have lt0 : ∀ x ∈ p0, x.block < W.heap.size := by obtain ⟨m, hm⟩ := k0; exact DataW.trod_lt m _ _ _ hm
  obtain ⟨a0, e0, -, -, w0⟩ := open_int Try.underlying46 (hval 0 46 v0 rfl rfl) h0
  subst e0
  have k1 := h1
  have lt1 : ∀ x ∈ p1, x.block < W.heap.size := by obtain ⟨m, hm⟩ := k1; exact DataW.trod_lt m _ _ _ hm
  obtain ⟨a1, e1, -, -, w1⟩ := open_int Try.underlying58 (hval 1 58 v1 rfl rfl) h1
  subst e1
  have k2 := h2
  have lt2 : ∀ x ∈ p2, x.block < W.heap.size := by obtain ⟨m, hm⟩ := k2; exact DataW.trod_lt m _ _ _ hm
  obtain ⟨a2_a, a2_len, a2_cap, e2⟩ := okWide_slice Try.underlying59 (hval 2 59 v2 rfl rfl)
  subst e2
  obtain ⟨m2, t2⟩ := h2
  obtain ⟨a2, c2, l2, ev2, hl2, hb2, hA2⟩ := nums_open Try.underlying59 Try.underlying47 (by kernel_rfl) t2
  simp only [Value.slice.injEq] at ev2
  obtain ⟨rfl, rfl, rfl⟩ := ev2
  have k3 := h3
  have lt3 : ∀ x ∈ p3, x.block < W.heap.size := by obtain ⟨m, hm⟩ := k3; exact DataW.trod_lt m _ _ _ hm
  obtain ⟨a3_a, a3_len, a3_cap, e3⟩ := okWide_slice Try.underlying60 (hval 3 60 v3 rfl rfl)
  subst e3
  obtain ⟨m3, t3⟩ := h3
  obtain ⟨a3, c3, l3, ev3, hl3, hb3, hA3⟩ := nums_open Try.underlying60 Try.underlying5 (by kernel_rfl) t3
  simp only [Value.slice.injEq] at ev3
  obtain ⟨rfl, rfl, rfl⟩ := ev3
  clear hA0 hval0
  refine (ProtectFuses_walk a0 w0 a1 w1 _ _ l2 hl2 hb2 W hA2 _ _ l3 hl3 hb3 hA3).mono fun e W' ⟨he, bel⟩ => ?_
  subst he
  exact ⟨_, rfl, _, _, _, [], _, [], hW', trodAll_mk1 (shut_bool Try.underlying4 _), (trodAll_cons_mk (Below.trod protectFuses_laidOut (by kernel_rfl) (of_decide_eq_true (by kernel_rfl)) k0 bel lt0) (trodAll_cons_mk (Below.trod protectFuses_laidOut (by kernel_rfl) (of_decide_eq_true (by kernel_rfl)) k1 bel lt1) (trodAll_cons_mk (Below.trod protectFuses_laidOut (by kernel_rfl) (of_decide_eq_true (by kernel_rfl)) k2 bel lt2) (trodAll_cons_mk (Below.trod protectFuses_laidOut (by kernel_rfl) (of_decide_eq_true (by kernel_rfl)) k3 bel lt3) trodAll_mk0)))), rfl, bel.frame _, fun h => by cases h⟩

theorem ProtectFuses_proved : Rows.ProtectFusesSaid :=
  OpenClaim.holds_of_wide 6 Try.f6 rfl rfl rfl rfl rfl rfl rfl ⟨rfl, rfl, rfl, rfl, rfl⟩ rfl rfl rfl rfl rfl (by kernel_rfl) Try.func6 (by kernel_rfl)
    (of_decide_eq_true (by kernel_rfl)) (by unfold Func.isWrapper; first | (rw [if_pos (by decide +kernel)]; kernel_rfl) | (rw [if_neg (by decide +kernel)]; exact ⟨rfl, rfl⟩))
    (fun os started H enc _ => protectFuses_lifted os started H enc)
end Go.Proofs.Ytgiinciclnekjaa
