/-
  ProtectMelts: for all fuses and currents, Melts returns what the document says: the call returns true, and nothing that was in memory changes. No condition.
-/
import Derived.Test.YtgiinciclnekjaaMp
import Derived.Test.YtgiinciclnekjaaMr
import Derived.Test.YtgiinciclnekjaaMo
import Derived.Test.YtgiinciclnekjaaWt5
import Derived.Test.YtgiinciclnekjaaRows
import Derived.ProofKit
import Derived.OpenShut
import Derived.KernelRfl
import Derived.Lib.SmallJoins
set_option linter.unusedSimpArgs false
set_option linter.unusedVariables false
namespace Go.Proofs.Ytgiinciclnekjaa
open Go.ChangeShapes Go.WideShapes Go.ChangeAt Go.RowKit

set_option maxHeartbeats 1000000 in
set_option maxRecDepth 20000 in
theorem ProtectMelts_walk (r : Int) (_ : (Lit.int .i64 r).wf = true) (m : Int) (_ : (Lit.int .i64 m).wf = true) (a : Option Addr) (c : Nat) (xs : List Int) (hl : xs.length ≤ maxLen) (w : World) (hA0 : NumAt .i64 a xs w) :
    Calls Try.prog 5 #[.agg #[.int .i64 r, .int .i64 m], .slice a xs.length c] w fun e w' => e = .returned (.bool true) ∧ Below w.heap.size w w' := by
  have hA := hA0.ints
  by_cases h3 : 3000 < xs.length
  · have h3' : 3000 < (xs.length : Int) := by omega
    unfold maxLen at hl
    clear hA hA0 h3
    go_enter Try.func5, Try.ntmps5
    go_wp2_with (go_at_call 16; refine (works5_any _).mono ?_; rintro e w1 ⟨rfl, hb1⟩)
    go_ret
    exact ⟨rfl, (by repeat' (first | exact Below.refl _ _ | assumption | apply bDrewN | apply bDrew | apply bAlloc | (refine bSet ?_ ?_ _) | (refine bStep ?_ (by assumption)) | omega | (simp <;> omega)))⟩
  · have h3' : (xs.length : Int) ≤ 3000 := by omega
    have C1 := Lib.hid (fun w h => Melts_row r m a c xs w (by omega) h)
    have C2 := Lib.hid (fun w h => RMelts_row r m a c xs w (by omega) h)
    have HA := Lib.hid hA
    unfold mtup at C1 C2
    generalize meltS r m xs = T at *
    obtain ⟨t1, t2, t3⟩ := T
    clear hA hA0 h3 hl
    go_enter Try.func5, Try.ntmps5
    go_wp2_with (first | (go_at_call 23; refine (C1.out _ (HA.out.step (by repeat' (first | exact Below.refl _ _ | assumption | apply bDrewN | apply bDrew | apply bAlloc | (refine bSet ?_ ?_ _) | (refine bStep ?_ (by assumption)) | omega | (simp <;> omega))))).mono ?_; rintro e w1 ⟨rfl, hb1⟩; obtain ⟨hcw1, hfw1⟩ := bcell hb1; have hzw1 := Below.size hb1; (try simp at hzw1); have hzw10 : w.heap.size < w1.heap.size := (by omega)) | (go_at_call 24; refine (C2.out _ (HA.out.step (by repeat' (first | exact Below.refl _ _ | assumption | apply bDrewN | apply bDrew | apply bAlloc | (refine bSet ?_ ?_ _) | (refine bStep ?_ (by assumption)) | omega | (simp <;> omega))))).mono ?_; rintro e w2 ⟨rfl, hb2⟩; obtain ⟨hcw2, hfw2⟩ := bcell hb2; have hzw2 := Below.size hb2; (try simp at hzw2); have hzw20 : w.heap.size < w2.heap.size := (by omega)) | (go_at_call 16; refine (works5_any _).mono ?_; rintro e w3 ⟨rfl, hb3⟩))
    go_ret
    exact ⟨by simp, (by repeat' (first | exact Below.refl _ _ | assumption | apply bDrewN | apply bDrew | apply bAlloc | (refine bSet ?_ ?_ _) | (refine bStep ?_ (by assumption)) | omega | (simp <;> omega)))⟩

theorem protectMelts_own : ownKnob Try.prog.godebug = none := by kernel_rfl
theorem protectMelts_laidOut : laidOutB Try.prog = true := by kernel_rfl
set_option maxRecDepth 100000 in
theorem protectMelts_lifted (os : Os) (started : os.Started) (H : Type) (enc : TypeId × Value → H) :
    ReturnsInHanded {} Try.checked os 5 .any (Rows.protectMeltsSpec.pre6 enc Try.prog Try.f5 Rows.protectMeltsRow.domain false) (Rows.protectMeltsSpec.post enc Try.prog Try.f5 false true false false) := by
  refine returnsInHanded_of_change (C := Try.checked) protectMelts_own started (by kernel_rfl) Try.func5
    (ChangeSpec.witness6 (enc := enc) (C := Try.checked) false ⟨#[], #[.agg #[.int .i64 0, .int .i64 0], .slice none 0 0], []⟩ 8 (by kernel_rfl) (by kernel_rfl) (by kernel_rfl) (by kernel_rfl)) ?_
  intro W base args ds gs before hval0 hW hcnd _
  have hval : ∀ (j : Nat) t v, Try.f5.params[j]? = some t → args[j]? = some v → Value.okWide Try.prog W .any base t v := hval0
  have hW' := hW
  obtain ⟨p, q, hA0, hV, rfl, hfz, hnd⟩ := hW
  have hA : DataW.TrodAll enc Try.prog W 0 (fun _ => true) true Try.f5.params.toList args.toList ds p := hA0
  rw [Try.params5] at hA hval
  obtain ⟨v0, vs0, d0, ds0, p0, q0, hargs, rfl, rfl, h0, r0⟩ := trodAll_cons hA
  obtain ⟨v1, vs1, d1, ds1, p1, q1, rfl, rfl, rfl, h1, r1⟩ := trodAll_cons r0
  obtain ⟨rfl, rfl, rfl⟩ := trodAll_nil r1
  obtain rfl : args = #[v0, v1] := by cases args; simp_all
  obtain ⟨rfl, rfl⟩ := trodVars_none hV
  have k0 := h0
  have lt0 : ∀ x ∈ p0, x.block < W.heap.size := by obtain ⟨m, hm⟩ := k0; exact DataW.trod_lt m _ _ _ hm
  obtain ⟨c0_0, c0_1, y0_0, y0_1, m0, e0, -, -, g0_0, g0_1⟩ := Joins.open_agg2 Try.underlying54 (by kernel_rfl) (show Try.prog.cellsOf 54 = 2 by kernel_rfl) (hval 0 54 v0 rfl rfl) h0
  subst e0
  obtain ⟨a0_0, b0_0, -, w0_0⟩ := DataW.trod_int Try.underlying2 g0_0
  simp only [List.cons.injEq, and_true] at b0_0
  subst b0_0
  obtain ⟨a0_1, b0_1, -, w0_1⟩ := DataW.trod_int Try.underlying2 g0_1
  simp only [List.cons.injEq, and_true] at b0_1
  subst b0_1
  have k1 := h1
  have lt1 : ∀ x ∈ p1, x.block < W.heap.size := by obtain ⟨m, hm⟩ := k1; exact DataW.trod_lt m _ _ _ hm
  obtain ⟨a1_a, a1_len, a1_cap, e1⟩ := okWide_slice Try.underlying49 (hval 1 49 v1 rfl rfl)
  subst e1
  obtain ⟨m1, t1⟩ := h1
  obtain ⟨a1, c1, l1, ev1, hl1, hb1, hA1⟩ := nums_open Try.underlying49 Try.underlying2 (by kernel_rfl) t1
  simp only [Value.slice.injEq] at ev1
  obtain ⟨rfl, rfl, rfl⟩ := ev1
  clear hA0 hval0
  refine (ProtectMelts_walk a0_0 w0_0 a0_1 w0_1 _ _ l1 hl1 W hA1).mono fun e W' ⟨he, bel⟩ => ?_
  subst he
  exact ⟨_, rfl, _, _, _, [], _, [], hW', trodAll_mk1 (shut_bool Try.underlying4 _), (trodAll_cons_mk (Below.trod protectMelts_laidOut (by kernel_rfl) (of_decide_eq_true (by kernel_rfl)) k0 bel lt0) (trodAll_cons_mk (Below.trod protectMelts_laidOut (by kernel_rfl) (of_decide_eq_true (by kernel_rfl)) k1 bel lt1) trodAll_mk0)), rfl, bel.frame _, fun h => by cases h⟩

theorem ProtectMelts_proved : Rows.ProtectMeltsSaid :=
  OpenClaim.holds_of_wide 5 Try.f5 rfl rfl rfl rfl rfl rfl rfl ⟨rfl, rfl, rfl, rfl, rfl⟩ rfl rfl rfl rfl rfl (by kernel_rfl) Try.func5 (by kernel_rfl)
    (of_decide_eq_true (by kernel_rfl)) (by unfold Func.isWrapper; first | (rw [if_pos (by decide +kernel)]; kernel_rfl) | (rw [if_neg (by decide +kernel)]; exact ⟨rfl, rfl⟩))
    (fun os started H enc _ => protectMelts_lifted os started H enc)
end Go.Proofs.Ytgiinciclnekjaa
