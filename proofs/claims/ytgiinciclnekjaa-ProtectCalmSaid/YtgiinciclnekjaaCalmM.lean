/-
  ProtectCalm: no false alarm: without a fault, or with a channel that lies or is mute, or a wire that is stuck, and all true quantities within their limits, the machine never trips, and if the contactors are to be closed for long enough, the path is closed: for every life the call returns true, and nothing that was in memory changes. No condition.
-/
import Derived.Test.YtgiinciclnekjaaG54Calm
import Derived.Test.YtgiinciclnekjaaRows
import Derived.ProofKit
import Derived.OpenShut
import Derived.KernelRfl
set_option linter.unusedSimpArgs false
set_option linter.unusedVariables false
namespace Go.Proofs.Ytgiinciclnekjaa
open Go.ChangeShapes Go.WideShapes Go.ChangeAt Go.RowKit

open Sx
/-! without ticks -/
noncomputable def c0L (b : Nat → Bool) (x : Nat → Int) (a : Option Addr) (c : Nat) : Tree FLeaf := evFn tbl wr5 spC 300 12 12 [lfV b x (.val (.slice a 0 c))] st0
theorem c0L_eq (b : Nat → Bool) (x : Nat → Int) (a : Option Addr) (c : Nat) : c0L b x a c = evFn tbl wr5 spC 300 12 12 [lfV b x (.val (.slice a 0 c))] st0 := by unfold c0L; rfl
def q0B (x : Nat → Int) : Bool := chkR (nOf (gsL (nOf (gsL (guN x))))) == 0 && decide (0 ≤ lcI x ∧ lcI x ≤ 7)
def q1B (b : Nat → Bool) (x : Nat → Int) : Bool := decide (1 ≤ kdI x ∧ kdI x ≤ 6 ∧ 0 ≤ plaI x ∧ plaI x ≤ 2) && (!alB b x || decide (5 ≤ kdI x))
set_option maxRecDepth 100000 in
theorem c0_ev (b : Nat → Bool) (x : Nat → Int) (a : Option Addr) (c : Nat) : res (c0L b x a c) = some ([guN x 20 != 0, kdX x || (!(kdI x == 0) || q0B x), kdX x || ((kdI x == 0) || q1B b x), kdX x || ((kdI x == 0) || q0B x)], .one (.b (bif kdX x then true else bif kdI x == 0 then true else true))) := by kernel_rfl
theorem c0_any {b : Nat → Bool} {x : Nat → Int} (hx : LfOk x) (a : Option Addr) (c : Nat) (w : World) : Calls Try.prog 12 #[(lfV b x (.val (.slice a 0 c))).den env0] w fun e w' => e = .returned (.bool true) ∧ Below w.heap.size w w' := by
  have h1 := c0_ev b x a c
  rw [c0L_eq] at h1
  have q0 : q0B x = true := by
    unfold q0B
    rw [Bool.and_eq_true]
    obtain ⟨L, O, hO, hL, hLO⟩ := lc_eq hx
    refine ⟨?_, decide_eq_true ?_⟩
    · have : chkR (nOf (gsL (nOf (gsL (guN x))))) = chkR (guN x) := rfl
      rw [this, chk_gu hx]; rfl
    · omega
  have h2 := res_any tbl_ok tbl_any spC_ok (args := [lfV b x (.val (.slice a 0 c))]) (fun y hy => by
    simp only [List.mem_cons, List.not_mem_nil, or_false] at hy
    subst hy
    show (symL _ _ _ _ ++ _).all Cv.freeB = true
    rw [List.all_append, symL_free]; rfl) h1 (fun c hc => by
    simp only [List.mem_cons, List.not_mem_nil, or_false] at hc
    have fd := fd_ok (b := b) hx (kz := (kdI x == 0)) rfl
    rcases hc with rfl | rfl | rfl | rfl
    · exact open_ne hx
    · rw [q0, Bool.or_true, Bool.or_true]
    · cases hk : (kdI x == 0) with
      | true => exact Bool.or_true _
      | false =>
        rw [hk] at fd
        rw [fd (q1B b x) (by unfold fdB q1B; simp)]
        exact Bool.or_true _
    · rw [q0, Bool.or_true, Bool.or_true]) w
  refine h2.mono fun e w' => ?_
  rintro ⟨rfl, hb⟩
  refine ⟨?_, hb⟩
  cases kdX x <;> cases (kdI x == 0) <;> rfl
theorem fn_cl : (fnOf 12).body = some (cdOf 12) ∧ (1 : Nat) ≤ (fnOf 12).ntmps ∧ Try.prog.funcs[(12 : Nat)]? = some (fnOf 12) := ⟨by kernel_rfl, Nat.le_of_ble_eq_true (by kernel_rfl), Try.func12⟩
theorem ProtectCalm_walk (b : Nat → Bool) (x : Nat → Int) (hw : WfL x lsLf) (u : Value) (w : World) (hu : RowIs w 27 lsTk u) :
    Calls Try.prog 12 #[.agg ((symL b x 0 lsLf).map (·.den env0) ++ [u]).toArray] w fun e w' => e = .returned (.bool true) ∧ Below w.heap.size w w' := by
  have hx := lf_ok hw
  have key : ∀ (c : Cv) (e : Env), c.den e = u → (lfV b x c).den e = .agg ((symL b x 0 lsLf).map (·.den env0) ++ [u]).toArray := fun c e hc => by
    show Value.agg (densA e (symL b x 0 lsLf ++ [c])) = _
    have h1 : densA e (symL b x 0 lsLf) = densA env0 (symL b x 0 lsLf) := by
      have := Sv.free_den (v := .agg (symL b x 0 lsLf)) (symL_free _ _ _ _) env0 e
      have h2 : Value.agg (densA e (symL b x 0 lsLf)) = Value.agg (densA env0 (symL b x 0 lsLf)) := this
      injection h2
    rw [densA_app, h1]
    unfold densA
    show Value.agg (((symL b x 0 lsLf).map (·.den env0)).toArray ++ [c.den e].toArray) = _
    rw [hc]
    simp
  rcases hu with ⟨a, c, rfl⟩ | ⟨bl, off, len, cap, f, rfl, h0, hle, hb, hc, hf⟩
  · rw [← key (.val (.slice a 0 c)) env0 rfl]
    exact c0_any hx a c w
  · obtain ⟨f1, f2, f3⟩ := fn_cl
    have := seg_true (args := lfA b x len cap) tbl_ok f3 f1 f2 (cl_seg hx hf h0) (hpO (a := ⟨bl, off, none⟩) (T := 124) hb hc) (fun y hy => by
      simp only [lfA, List.mem_cons, List.not_mem_nil, or_false] at hy
      subst hy
      intro c hc
      rcases List.mem_append.1 hc with h | h
      · exact Cv.free_sc (List.all_eq_true.1 (symL_free _ _ _ _) c h) _
      · obtain rfl := List.mem_singleton.1 h
        exact ⟨rfl, trivial, trivial, trivial⟩)
    rw [← key (.slc 0 (.lit 0) (.opq len) (.opq cap)) (envO ⟨bl, off, none⟩) rfl]
    exact this

theorem protectCalm_own : ownKnob Try.prog.godebug = none := by kernel_rfl
theorem protectCalm_laidOut : laidOutB Try.prog = true := by kernel_rfl
set_option maxRecDepth 100000 in
theorem protectCalm_lifted (os : Os) (started : os.Started) (H : Type) (enc : TypeId × Value → H) :
    ReturnsInHanded {} Try.checked os 12 .any (Rows.protectCalmSpec.pre6 enc Try.prog Try.f12 Rows.protectCalmRow.domain false) (Rows.protectCalmSpec.post enc Try.prog Try.f12 false true false false) := by
  refine returnsInHanded_of_change (C := Try.checked) protectCalm_own started (by kernel_rfl) Try.func12
    (ChangeSpec.witness6 (enc := enc) (C := Try.checked) false ⟨#[], #[.agg #[.int .u8 0, .int .u8 0, .bool false, .int .u8 0, .int .u8 0, .int .u8 0, .int .u8 0, .int .u8 0, .int .u8 0, .int .u8 0, .int .u8 0, .int .u8 0, .int .u8 0, .int .u8 0, .int .u8 0, .int .u8 0, .int .u8 0, .slice none 0 0]], []⟩ 8 (by kernel_rfl) (by kernel_rfl) (by kernel_rfl) (by kernel_rfl)) ?_
  intro W base args ds gs before hval0 hW hcnd _
  have hval : ∀ (j : Nat) t v, Try.f12.params[j]? = some t → args[j]? = some v → Value.okWide Try.prog W .any base t v := hval0
  have hW' := hW
  obtain ⟨p, q, hA0, hV, rfl, hfz, hnd⟩ := hW
  have hA : DataW.TrodAll enc Try.prog W 0 (fun _ => true) true Try.f12.params.toList args.toList ds p := hA0
  rw [Try.params12] at hA hval
  obtain ⟨v0, vs0, d0, ds0, p0, q0, hargs, rfl, rfl, h0, r0⟩ := trodAll_cons hA
  obtain ⟨rfl, rfl, rfl⟩ := trodAll_nil r0
  obtain rfl : args = #[v0] := by cases args; simp_all
  obtain ⟨rfl, rfl⟩ := trodVars_none hV
  have k0 := h0
  have lt0 : ∀ x ∈ p0, x.block < W.heap.size := by obtain ⟨m, hm⟩ := k0; exact DataW.trod_lt m _ _ _ hm
  obtain ⟨bs0, ns0, u0, e0, w0, l0⟩ := (by obtain ⟨m, hm⟩ := h0; exact life_open (hval 0 114 v0 rfl rfl) ⟨m, hm⟩ : ∃ (bs : Nat → Bool) (ns : Nat → Int) (x : Value), v0 = .agg ((symL bs ns 0 lsLf).map (·.den env0) ++ [x]).toArray ∧ WfL ns lsLf ∧ RowIs W 27 lsTk x)
  subst e0
  clear hA0 hval0
  refine (ProtectCalm_walk bs0 ns0 w0 u0 W l0).mono fun e W' ⟨he, bel⟩ => ?_
  subst he
  exact ⟨_, rfl, _, _, _, [], _, [], hW', trodAll_mk1 (shut_bool Try.underlying4 _), (trodAll_cons_mk (Below.trod protectCalm_laidOut (by kernel_rfl) (of_decide_eq_true (by kernel_rfl)) k0 bel lt0) trodAll_mk0), rfl, bel.frame _, fun h => by cases h⟩

theorem ProtectCalm_proved : Rows.ProtectCalmSaid :=
  OpenClaim.holds_of_wide 12 Try.f12 rfl rfl rfl rfl rfl rfl rfl ⟨rfl, rfl, rfl, rfl, rfl⟩ rfl rfl rfl rfl rfl (by kernel_rfl) Try.func12 (by kernel_rfl)
    (of_decide_eq_true (by kernel_rfl)) (by unfold Func.isWrapper; first | (rw [if_pos (by decide +kernel)]; kernel_rfl) | (rw [if_neg (by decide +kernel)]; exact ⟨rfl, rfl⟩))
    (fun os started H enc _ => protectCalm_lifted os started H enc)
end Go.Proofs.Ytgiinciclnekjaa
