/-
  ProtectVoting: if at least two usable channels show numbers that differ from a true number by at most half the spread, the votes are there, and differ by no more, whatever the third channel shows: for all arguments the call returns true, and nothing that was in memory changes. No condition.
-/
import Derived.Test.YtgiinciclnekjaaVh
import Derived.Test.YtgiinciclnekjaaRows
import Derived.ProofKit
import Derived.OpenShut
import Derived.KernelRfl
set_option linter.unusedSimpArgs false
set_option linter.unusedVariables false
namespace Go.Proofs.Ytgiinciclnekjaa
open Go.ChangeShapes Go.WideShapes Go.ChangeAt Go.RowKit

theorem wf_u8 {n : Int} (h : (Lit.int .u8 n).wf = true) : 0 ≤ n ∧ n ≤ 255 := by
  simp only [Lit.wf, Bool.and_eq_true, decide_eq_true_eq] at h
  exact h
theorem wf_u16 {n : Int} (h : (Lit.int .u16 n).wf = true) : 0 ≤ n ∧ n ≤ 65535 := by
  simp only [Lit.wf, Bool.and_eq_true, decide_eq_true_eq] at h
  exact h
theorem wf_i16 {n : Int} (h : (Lit.int .i16 n).wf = true) : -32768 ≤ n ∧ n ≤ 32767 := by
  simp only [Lit.wf, Bool.and_eq_true, decide_eq_true_eq] at h
  exact h
theorem wf_i32 {n : Int} (h : (Lit.int .i32 n).wf = true) : -2147483648 ≤ n ∧ n ≤ 2147483647 := by
  simp only [Lit.wf, Bool.and_eq_true, decide_eq_true_eq] at h
  exact h
open Sx
theorem tmod_in {a h : Int} (h0 : 0 ≤ h) : -h ≤ a.tmod (h + 1) ∧ a.tmod (h + 1) ≤ h := by
  have h1 := Int.tmod_lt_of_pos a (show 0 < h + 1 by omega)
  have h2 := Int.lt_tmod_of_pos a (show 0 < h + 1 by omega)
  omega
theorem ProtectVoting_walk (qu : Int) (hq : (Lit.int .u8 qu).wf = true) (sp : Int) (hs : (Lit.int .u16 sp).wf = true) (tr : Int) (ht : (Lit.int .i32 tr).wf = true) (a : Int) (ha : (Lit.int .i16 a).wf = true) (b : Int) (hb : (Lit.int .i16 b).wf = true) (th : Int) (_ : (Lit.int .i64 th).wf = true) (mu : Bool) (pl : Int) (hp : (Lit.int .u8 pl).wf = true) (w : World) :
    Calls Try.prog 4 #[.int .u8 qu, .int .u16 sp, .int .i32 tr, .int .i16 a, .int .i16 b, .int .i64 th, .bool mu, .int .u8 pl] w fun e w' => e = .returned (.bool true) ∧ Below w.heap.size w w' := by
  obtain ⟨q1, q2⟩ := wf_u8 hq
  obtain ⟨s1, s2⟩ := wf_u16 hs
  obtain ⟨t1, t2⟩ := wf_i32 ht
  obtain ⟨a1, a2⟩ := wf_i16 ha
  obtain ⟨b1, b2⟩ := wf_i16 hb
  obtain ⟨p1, p2⟩ := wf_u8 hp
  have wrap : ∀ x : Int, -9223372036854775808 ≤ x → x ≤ 9223372036854775807 → IntKind.i64.wrap x = x := fun x h1 h2 => Go.IntWalk.i64_in _ ⟨h1, h2⟩
  have X0 : 0 ≤ qu.tmod 5 ∧ qu.tmod 5 < 5 := ⟨Int.tmod_nonneg 5 q1, Int.tmod_lt_of_pos qu (by decide)⟩
  have Y0 : 0 ≤ pl.tmod 3 ∧ pl.tmod 3 < 3 := ⟨Int.tmod_nonneg 3 p1, Int.tmod_lt_of_pos pl (by decide)⟩
  have hY : pl.tmod 3 = 0 ∨ pl.tmod 3 = 1 ∨ pl.tmod 3 = 2 := by omega
  have hX := lt5 X0
  have hd : sp.tdiv 2 = sp / 2 := Int.tdiv_eq_ediv_of_nonneg s1
  have e5 : hfV sp = sp / 2 := by
    unfold hfV
    rw [wrap sp (by omega) (by omega), hd, wrap _ (by omega) (by omega)]
  have e6 : h1V sp = sp / 2 + 1 := by
    unfold h1V
    rw [e5, wrap _ (by omega) (by omega)]
  have g : ∀ c : Int, -32768 ≤ c → c ≤ 32767 → gdV tr c sp = tr + c.tmod (sp / 2 + 1) := fun c c1 c2 => by
    have := tmod_in (a := c) (h := sp / 2) (by omega)
    unfold gdV
    rw [e6, wrap tr (by omega) (by omega), wrap c (by omega) (by omega), wrap _ (by omega) (by omega)]
  have ga := tmod_in (a := a) (h := sp / 2) (by omega)
  have gb := tmod_in (a := b) (h := sp / 2) (by omega)
  have h := voting_eval qu sp tr a b th pl mu
  rw [wrap qu (by omega) (by omega), wrap pl (by omega) (by omega), wrap sp (by omega) (by omega), wrap tr (by omega) (by omega), g a a1 a2, g b b1 b2, e5, e6] at h
  have no : ∀ v, chV (gsV sp (qu.tmod 5)) (csV mu (tr + a.tmod (sp / 2 + 1)) (tr + b.tmod (sp / 2 + 1)) th (qu.tmod 5) (pl.tmod 3)) (bsV v (pl.tmod 3)) (qu.tmod 5) tr (sp / 2) = false := fun v =>
    chV_no hX hY s1 s2 (by omega) t1 t2 (by omega) (by omega) (by omega) (by omega) (by omega)
  rw [no false, no true] at h
  have k := res_any tbl_ok tbl_any sp7_ok (args := [.one (.i .u8 qu false), .one (.i .u16 sp false), .one (.i .i32 tr false), .one (.i .i16 a false), .one (.i .i16 b false), .one (.i .i64 th false), .one (.b mu false), .one (.i .u8 pl false)]) (fun x hx => by
    simp only [List.mem_cons, List.not_mem_nil, or_false] at hx
    rcases hx with rfl | rfl | rfl | rfl | rfl | rfl | rfl | rfl <;> rfl) h (fun x hx => by
    rcases List.mem_append.1 hx with hx | hx
    · exact muV_true X0 hY (by omega) x hx
    · simp only [List.mem_cons, List.not_mem_nil, or_false] at hx
      subst hx
      simp
      omega) w
  exact k

theorem protectVoting_own : ownKnob Try.prog.godebug = none := by kernel_rfl
theorem protectVoting_laidOut : laidOutB Try.prog = true := by kernel_rfl
set_option maxRecDepth 100000 in
theorem protectVoting_lifted (os : Os) (started : os.Started) (H : Type) (enc : TypeId × Value → H) :
    ReturnsInHanded {} Try.checked os 4 .any (Rows.protectVotingSpec.pre6 enc Try.prog Try.f4 Rows.protectVotingRow.domain false) (Rows.protectVotingSpec.post enc Try.prog Try.f4 false true false false) := by
  refine returnsInHanded_of_change (C := Try.checked) protectVoting_own started (by kernel_rfl) Try.func4
    (ChangeSpec.witness6 (enc := enc) (C := Try.checked) false ⟨#[], #[.int .u8 0, .int .u16 0, .int .i32 0, .int .i16 0, .int .i16 0, .int .i64 0, .bool false, .int .u8 0], []⟩ 8 (by kernel_rfl) (by kernel_rfl) (by kernel_rfl) (by kernel_rfl)) ?_
  intro W base args ds gs before hval0 hW hcnd _
  have hval : ∀ (j : Nat) t v, Try.f4.params[j]? = some t → args[j]? = some v → Value.okWide Try.prog W .any base t v := hval0
  have hW' := hW
  obtain ⟨p, q, hA0, hV, rfl, hfz, hnd⟩ := hW
  have hA : DataW.TrodAll enc Try.prog W 0 (fun _ => true) true Try.f4.params.toList args.toList ds p := hA0
  rw [Try.params4] at hA hval
  obtain ⟨v0, vs0, d0, ds0, p0, q0, hargs, rfl, rfl, h0, r0⟩ := trodAll_cons hA
  obtain ⟨v1, vs1, d1, ds1, p1, q1, rfl, rfl, rfl, h1, r1⟩ := trodAll_cons r0
  obtain ⟨v2, vs2, d2, ds2, p2, q2, rfl, rfl, rfl, h2, r2⟩ := trodAll_cons r1
  obtain ⟨v3, vs3, d3, ds3, p3, q3, rfl, rfl, rfl, h3, r3⟩ := trodAll_cons r2
  obtain ⟨v4, vs4, d4, ds4, p4, q4, rfl, rfl, rfl, h4, r4⟩ := trodAll_cons r3
  obtain ⟨v5, vs5, d5, ds5, p5, q5, rfl, rfl, rfl, h5, r5⟩ := trodAll_cons r4
  obtain ⟨v6, vs6, d6, ds6, p6, q6, rfl, rfl, rfl, h6, r6⟩ := trodAll_cons r5
  obtain ⟨v7, vs7, d7, ds7, p7, q7, rfl, rfl, rfl, h7, r7⟩ := trodAll_cons r6
  obtain ⟨rfl, rfl, rfl⟩ := trodAll_nil r7
  obtain rfl : args = #[v0, v1, v2, v3, v4, v5, v6, v7] := by cases args; simp_all
  obtain ⟨rfl, rfl⟩ := trodVars_none hV
  have k0 := h0
  have lt0 : ∀ x ∈ p0, x.block < W.heap.size := by obtain ⟨m, hm⟩ := k0; exact DataW.trod_lt m _ _ _ hm
  obtain ⟨a0, e0, -, -, w0⟩ := open_int Try.underlying5 (hval 0 5 v0 rfl rfl) h0
  subst e0
  have k1 := h1
  have lt1 : ∀ x ∈ p1, x.block < W.heap.size := by obtain ⟨m, hm⟩ := k1; exact DataW.trod_lt m _ _ _ hm
  obtain ⟨a1, e1, -, -, w1⟩ := open_int Try.underlying46 (hval 1 46 v1 rfl rfl) h1
  subst e1
  have k2 := h2
  have lt2 : ∀ x ∈ p2, x.block < W.heap.size := by obtain ⟨m, hm⟩ := k2; exact DataW.trod_lt m _ _ _ hm
  obtain ⟨a2, e2, -, -, w2⟩ := open_int Try.underlying21 (hval 2 21 v2 rfl rfl) h2
  subst e2
  have k3 := h3
  have lt3 : ∀ x ∈ p3, x.block < W.heap.size := by obtain ⟨m, hm⟩ := k3; exact DataW.trod_lt m _ _ _ hm
  obtain ⟨a3, e3, -, -, w3⟩ := open_int Try.underlying47 (hval 3 47 v3 rfl rfl) h3
  subst e3
  have k4 := h4
  have lt4 : ∀ x ∈ p4, x.block < W.heap.size := by obtain ⟨m, hm⟩ := k4; exact DataW.trod_lt m _ _ _ hm
  obtain ⟨a4, e4, -, -, w4⟩ := open_int Try.underlying47 (hval 4 47 v4 rfl rfl) h4
  subst e4
  have k5 := h5
  have lt5 : ∀ x ∈ p5, x.block < W.heap.size := by obtain ⟨m, hm⟩ := k5; exact DataW.trod_lt m _ _ _ hm
  obtain ⟨a5, e5, -, -, w5⟩ := open_int Try.underlying2 (hval 5 2 v5 rfl rfl) h5
  subst e5
  have k6 := h6
  have lt6 : ∀ x ∈ p6, x.block < W.heap.size := by obtain ⟨m, hm⟩ := k6; exact DataW.trod_lt m _ _ _ hm
  obtain ⟨a6, e6, -, -⟩ := open_bool Try.underlying4 (hval 6 4 v6 rfl rfl) h6
  subst e6
  have k7 := h7
  have lt7 : ∀ x ∈ p7, x.block < W.heap.size := by obtain ⟨m, hm⟩ := k7; exact DataW.trod_lt m _ _ _ hm
  obtain ⟨a7, e7, -, -, w7⟩ := open_int Try.underlying5 (hval 7 5 v7 rfl rfl) h7
  subst e7
  clear hA0 hval0
  refine (ProtectVoting_walk a0 w0 a1 w1 a2 w2 a3 w3 a4 w4 a5 w5 a6 a7 w7 W).mono fun e W' ⟨he, bel⟩ => ?_
  subst he
  exact ⟨_, rfl, _, _, _, [], _, [], hW', trodAll_mk1 (shut_bool Try.underlying4 _), (trodAll_cons_mk (Below.trod protectVoting_laidOut (by kernel_rfl) (of_decide_eq_true (by kernel_rfl)) k0 bel lt0) (trodAll_cons_mk (Below.trod protectVoting_laidOut (by kernel_rfl) (of_decide_eq_true (by kernel_rfl)) k1 bel lt1) (trodAll_cons_mk (Below.trod protectVoting_laidOut (by kernel_rfl) (of_decide_eq_true (by kernel_rfl)) k2 bel lt2) (trodAll_cons_mk (Below.trod protectVoting_laidOut (by kernel_rfl) (of_decide_eq_true (by kernel_rfl)) k3 bel lt3) (trodAll_cons_mk (Below.trod protectVoting_laidOut (by kernel_rfl) (of_decide_eq_true (by kernel_rfl)) k4 bel lt4) (trodAll_cons_mk (Below.trod protectVoting_laidOut (by kernel_rfl) (of_decide_eq_true (by kernel_rfl)) k5 bel lt5) (trodAll_cons_mk (Below.trod protectVoting_laidOut (by kernel_rfl) (of_decide_eq_true (by kernel_rfl)) k6 bel lt6) (trodAll_cons_mk (Below.trod protectVoting_laidOut (by kernel_rfl) (of_decide_eq_true (by kernel_rfl)) k7 bel lt7) trodAll_mk0)))))))), rfl, bel.frame _, fun h => by cases h⟩

theorem ProtectVoting_proved : Rows.ProtectVotingSaid :=
  OpenClaim.holds_of_wide 4 Try.f4 rfl rfl rfl rfl rfl rfl rfl ⟨rfl, rfl, rfl, rfl, rfl⟩ rfl rfl rfl rfl rfl (by kernel_rfl) Try.func4 (by kernel_rfl)
    (of_decide_eq_true (by kernel_rfl)) (by unfold Func.isWrapper; first | (rw [if_pos (by decide +kernel)]; kernel_rfl) | (rw [if_neg (by decide +kernel)]; exact ⟨rfl, rfl⟩))
    (fun os started H enc _ => protectVoting_lifted os started H enc)
end Go.Proofs.Ytgiinciclnekjaa
