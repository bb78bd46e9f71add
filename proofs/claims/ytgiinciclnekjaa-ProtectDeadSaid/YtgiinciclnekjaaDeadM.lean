/-
  ProtectDead: behind GuardDead nothing is driven any more, and the phase stays; marks of bad channels never go away; in GuardOff and GuardOpening nothing is driven: for every guard and all signals the call returns true, and nothing that was in memory changes. No condition.
-/
import Derived.Test.YtgiinciclnekjaaG35Dead
import Derived.Test.YtgiinciclnekjaaRows
import Derived.ProofKit
import Derived.OpenShut
import Derived.KernelRfl
set_option linter.unusedSimpArgs false
set_option linter.unusedVariables false
namespace Go.Proofs.Ytgiinciclnekjaa
open Go.ChangeShapes Go.WideShapes Go.ChangeAt Go.RowKit

open Sx
noncomputable def ddE (n : Nat → Int) (a : Option Addr) (c : Nat) : Tree SLeaf := upT [] 3 [.agg (symL (fun _ => false) n 0 lsG), .one (.val (.slice a 0 c))] st0
theorem ddE_eq (n : Nat → Int) (a : Option Addr) (c : Nat) : ddE n a c = evS tbl wr5 caS (fnOf 3).ntmps 300 [] 300 [.code (cdOf 3)] .normal (enterSt (withVr st0 (evVr wr5 3 300 (fnOf 3))) [.agg (symL (fun _ => false) n 0 lsG), .one (.val (.slice a 0 c))]) := by
  unfold ddE upT; rfl
set_option maxRecDepth 100000 in
theorem ddE_bad (n : Nat → Int) (a : Option Addr) (c : Nat) : (selW [true] (ddE n a c)).map (fun r => (r.1, retB 3 r.2)) = some ([chkR n != 0], some (bif chkR n == 2 then true else false)) := by kernel_rfl
set_option maxRecDepth 100000 in
theorem ddE_up (n : Nat → Int) (a : Option Addr) (c : Nat) : (selW [false, false] (ddE n a c)).map (fun r => (r.1, retB 3 r.2)) = some ([!(chkR n != 0), !(chkR n != 0)], some true) := by kernel_rfl
theorem ddE_seg (n : Nat → Int) (a : Option Addr) (c : Nat) : SegTo Try.prog (fnOf 3).ntmps (enterSt (withVr st0 (evVr wr5 3 300 (fnOf 3))) [.agg (symL (fun _ => false) n 0 lsG), .one (.val (.slice a 0 c))]) [.code (cdOf 3)] .normal DdEnd := by
  cases hk : (chkR n != 0) with
  | true =>
    obtain ⟨cs, x, hw, hg⟩ := selW_map (ddE_bad n a c)
    simp only [Prod.mk.injEq] at hg
    obtain ⟨k1, k2⟩ := hg
    have h2 : chkR n = 2 := by
      rcases chk_ladder n with h | h
      · rw [h] at hk; cases hk
      · exact h
    rw [h2] at k2
    have hat := selW_G hw (by
      rw [k1]
      intro c hc
      simp only [List.mem_cons, List.not_mem_nil, or_false] at hc
      rw [hc, hk])
    exact (caS_seg (ddE_eq n a c) hat).to (retB_at k2)
  | false =>
    obtain ⟨cs, x, hw, hg⟩ := selW_map (ddE_up n a c)
    simp only [Prod.mk.injEq] at hg
    obtain ⟨k1, k2⟩ := hg
    have hat := selW_G hw (by
      rw [k1]
      intro c hc
      simp only [List.mem_cons, List.not_mem_nil, or_false] at hc
      rcases hc with rfl | rfl <;> rw [hk] <;> rfl)
    exact (caS_seg (ddE_eq n a c) hat).to (retB_at k2)
theorem fn_dead : (fnOf 3).body = some (cdOf 3) ∧ (2 : Nat) ≤ (fnOf 3).ntmps ∧ Try.prog.funcs[(3 : Nat)]? = some (fnOf 3) := ⟨by kernel_rfl, Nat.le_of_ble_eq_true (by kernel_rfl), Try.func3⟩
theorem ProtectDead_walk (b0 : Nat → Bool) (n0 : Nat → Int) (_ : WfL n0 lsG) (v : Value) (w : World)
    (hv : (∃ a c, v = .slice a 0 c) ∨ ∃ (b off len cap : Nat) (f : Nat → Value), v = .slice (some ⟨b, off, none⟩) len cap ∧ 0 < len ∧ len ≤ maxLen ∧ b < w.heap.size ∧ (∀ k, k < len * 31 → w.cell? ⟨b, off + k, none⟩ = some (f k)) ∧ ∀ j, j < len → All2 Lf.ok lsS (elAt f 31 j)) :
    Calls Try.prog 3 #[(Sv.agg (symL b0 n0 0 lsG)).den env0, v] w fun e w' => e = .returned (.bool true) ∧ Below w.heap.size w w' := by
  obtain ⟨f1, f2, f3⟩ := fn_dead
  have hG : ∀ e : Env, (Sv.agg (symL (fun _ => false) n0 0 lsG)).den e = (Sv.agg (symL b0 n0 0 lsG)).den env0 := fun e => rfl
  rcases hv with ⟨a, c, rfl⟩ | ⟨b, off, len, cap, f, rfl, _, _, hb, hc, hf⟩
  · have := seg_true (args := [.agg (symL (fun _ => false) n0 0 lsG), .one (.val (.slice a 0 c))]) tbl_ok f3 f1 f2 (ddE_seg n0 a c) (hp0 w) (fun x hx => by
      simp only [List.mem_cons, List.not_mem_nil, or_false] at hx
      rcases hx with rfl | rfl
      · exact Sv.free_sc (show (Sv.agg _).freeB = true from symL_free _ _ _ _) _
      · trivial)
    exact this
  · have := seg_true (args := [.agg (symL (fun _ => false) n0 0 lsG), .one (.slc 0 (.lit 0) (.opq len) (.opq cap))]) tbl_ok f3 f1 f2 (dd_seg n0 len cap f hf) (hpO (a := ⟨b, off, none⟩) (T := 44) hb hc) (fun x hx => by
      simp only [List.mem_cons, List.not_mem_nil, or_false] at hx
      rcases hx with rfl | rfl
      · exact Sv.free_sc (show (Sv.agg _).freeB = true from symL_free _ _ _ _) _
      · exact ⟨rfl, trivial, trivial, trivial⟩)
    exact this

theorem protectDead_own : ownKnob Try.prog.godebug = none := by kernel_rfl
theorem protectDead_laidOut : laidOutB Try.prog = true := by kernel_rfl
set_option maxRecDepth 100000 in
theorem protectDead_lifted (os : Os) (started : os.Started) (H : Type) (enc : TypeId × Value → H) :
    ReturnsInHanded {} Try.checked os 3 .any (Rows.protectDeadSpec.pre6 enc Try.prog Try.f3 Rows.protectDeadRow.domain false) (Rows.protectDeadSpec.post enc Try.prog Try.f3 false true false false) := by
  refine returnsInHanded_of_change (C := Try.checked) protectDead_own started (by kernel_rfl) Try.func3
    (ChangeSpec.witness6 (enc := enc) (C := Try.checked) false ⟨#[], #[.agg #[.int .i64 0, .int .i64 0, .int .i64 0, .int .i64 0, .int .i64 0, .int .i64 0, .int .i64 0, .int .i64 0, .int .i64 0, .int .i64 0, .int .i64 0, .int .i64 0, .int .i64 0, .int .i64 0, .int .i64 0, .int .i64 0, .int .i64 0, .int .i64 0, .int .i64 0, .int .i64 0, .int .i64 0, .int .i64 0], .slice none 0 0], []⟩ 8 (by kernel_rfl) (by kernel_rfl) (by kernel_rfl) (by kernel_rfl)) ?_
  intro W base args ds gs before hval0 hW hcnd _
  have hval : ∀ (j : Nat) t v, Try.f3.params[j]? = some t → args[j]? = some v → Value.okWide Try.prog W .any base t v := hval0
  have hW' := hW
  obtain ⟨p, q, hA0, hV, rfl, hfz, hnd⟩ := hW
  have hA : DataW.TrodAll enc Try.prog W 0 (fun _ => true) true Try.f3.params.toList args.toList ds p := hA0
  rw [Try.params3] at hA hval
  obtain ⟨v0, vs0, d0, ds0, p0, q0, hargs, rfl, rfl, h0, r0⟩ := trodAll_cons hA
  obtain ⟨v1, vs1, d1, ds1, p1, q1, rfl, rfl, rfl, h1, r1⟩ := trodAll_cons r0
  obtain ⟨rfl, rfl, rfl⟩ := trodAll_nil r1
  obtain rfl : args = #[v0, v1] := by cases args; simp_all
  obtain ⟨rfl, rfl⟩ := trodVars_none hV
  have k0 := h0
  have lt0 : ∀ x ∈ p0, x.block < W.heap.size := by obtain ⟨m, hm⟩ := k0; exact DataW.trod_lt m _ _ _ hm
  obtain ⟨bs0, ns0, e0, w0⟩ := open_sym tbl_ok (d := 20) (ls := lsG) (by kernel_rfl) (by kernel_rfl) (hval 0 25 v0 rfl rfl) h0
  subst e0
  have k1 := h1
  have lt1 : ∀ x ∈ p1, x.block < W.heap.size := by obtain ⟨m, hm⟩ := k1; exact DataW.trod_lt m _ _ _ hm
  obtain ⟨a1_a, a1_len, a1_cap, e1⟩ := okWide_slice Try.underlying26 (hval 1 26 v1 rfl rfl)
  subst e1
  obtain ⟨m1, t1⟩ := h1
  clear hA0 hval0
  refine (ProtectDead_walk bs0 ns0 w0 _ W (open_rows tbl_ok (te := 44) (i := Try.t44) (ls := lsS) (by kernel_rfl) (by kernel_rfl) (by kernel_rfl) (by decide) t1)).mono fun e W' ⟨he, bel⟩ => ?_
  subst he
  exact ⟨_, rfl, _, _, _, [], _, [], hW', trodAll_mk1 (shut_bool Try.underlying4 _), (trodAll_cons_mk (Below.trod protectDead_laidOut (by kernel_rfl) (of_decide_eq_true (by kernel_rfl)) k0 bel lt0) (trodAll_cons_mk (Below.trod protectDead_laidOut (by kernel_rfl) (of_decide_eq_true (by kernel_rfl)) k1 bel lt1) trodAll_mk0)), rfl, bel.frame _, fun h => by cases h⟩

theorem ProtectDead_proved : Rows.ProtectDeadSaid :=
  OpenClaim.holds_of_wide 3 Try.f3 rfl rfl rfl rfl rfl rfl rfl ⟨rfl, rfl, rfl, rfl, rfl⟩ rfl rfl rfl rfl rfl (by kernel_rfl) Try.func3 (by kernel_rfl)
    (of_decide_eq_true (by kernel_rfl)) (by unfold Func.isWrapper; first | (rw [if_pos (by decide +kernel)]; kernel_rfl) | (rw [if_neg (by decide +kernel)]; exact ⟨rfl, rfl⟩))
    (fun os started H enc _ => protectDead_lifted os started H enc)
end Go.Proofs.Ytgiinciclnekjaa
