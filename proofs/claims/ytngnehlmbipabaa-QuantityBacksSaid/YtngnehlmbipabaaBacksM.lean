/-
  QuantityBacks: there and back: Back of the value at x contains x; all whole numbers of Back have values that meet the span, and its neighbours have none; the values do not decrease, and the image of a span is made of the values at its ends: the call returns true, and nothing that was in memory changes. No condition.
-/
import Derived.Test.YtngnehlmbipabaaG37Backs
import Derived.Test.YtngnehlmbipabaaG38Backs
set_option linter.unusedSimpArgs false
set_option linter.unusedVariables false
namespace Go.Proofs.Ytngnehlmbipabaa
open Go.ChangeShapes Go.WideShapes Go.ChangeAt Go.RowKit

theorem Backs_core (x0 y0 sd lo len at_ : Int) (a : Option Addr) (c : Nat) (l : List (Int × Int)) (w : World) (hx : -32768 ≤ x0 ∧ x0 ≤ 32767) (hy : -32768 ≤ y0 ∧ y0 ≤ 32767) (hl : l.length ≤ 9223372036854775807) (hb : stOk l) (hA : StAt a l w) (hsd : 0 ≤ sd ∧ sd ≤ 65535) (h1 : -32768 ≤ lo ∧ lo ≤ 32767) (h2 : -32768 ≤ len ∧ len ≤ 32767) :
    Calls Try.prog 4 #[.int .i16 x0, .int .i16 y0, .slice a l.length c, .int .u16 sd, .agg #[.int .i16 lo, .int .i16 len, .int .u16 at_]] w fun e w' => e = .returned (.bool true) ∧ Below w.heap.size w w' := by
  obtain ⟨k1, k2, k3⟩ := stps_ok hb
  obtain ⟨hS, hC⟩ := crv_ok k1 k2 k3 hx hy
  have hf := stX_zero (stps l) x0
  have hlen := stX_len (stps l) x0
  have hr := st_rng (stps l) x0 y0 (stps l).length k1 (Nat.le_refl _)
  have hle : (stX x0 (stps l)).length - 1 = (stps l).length := by omega
  rw [← hle] at hr
  obtain ⟨last, hlast⟩ : ∃ last, (stX x0 (stps l)).getD ((stX x0 (stps l)).length - 1) 0 = last := ⟨_, rfl⟩
  rw [hlast] at hr
  have hll : (((stX x0 (stps l)).length - 1 : Nat) : Int) ≤ 20 := by omega
  have hlr : x0 ≤ last ∧ last ≤ x0 + 5120 := by omega
  obtain ⟨n, hn⟩ : ∃ n : Nat, last - x0 + 1 = (n : Nat) := ⟨(last - x0 + 1).toNat, by omega⟩
  have hL := lenOf_bd h2.1 h2.2
  have hs : okS (lo, lo + lenOf len) = true := (okS_iff _).2 ⟨(isQ_iff _).2 (by show _ ≤ lo ∧ lo ≤ _; omega), (isQ_iff _).2 (by show _ ≤ lo + lenOf len ∧ lo + lenOf len ≤ _; omega), by show lo ≤ lo + lenOf len; omega⟩
  exact Backs_main (fun x => (valS (stX x0 (stps l)) (stY y0 (stps l)) x).1) (fun x => (valS (stX x0 (stps l)) (stY y0 (stps l)) x).2) (stX x0 (stps l)) (stY y0 (stps l)) x0 y0 last sd lo len at_ lo (lo + lenOf len) a c l w
    (Lib.hid fun W h => curve_any x0 y0 a c l W hx hy hl hb h)
    (Lib.hid fun bu ou cu bv ov cv x W hx h1 h2 => At_ok bu ou cu bv ov cv _ _ x W hC hx h1 h2)
    (Lib.hid fun bu ou cu bv ov cv p W hp h1 h2 => BackV_ok bu ou cu bv ov cv n _ _ x0 last p W hS hC hf hlast hn hp h1 h2)
    (Lib.hid fun bu ou cu bv ov cv W h1 h2 => BackT_ok bu ou cu bv ov cv n _ _ x0 last lo (lo + lenOf len) W hS hC hs hf hlast hn h1 h2)
    (Lib.hid fun bu ou cu bv ov cv W q1 q2 => Image_ok bu ou cu bv ov cv _ _ lo (lo + lenOf len) W hC hs q1 q2)
    (Lib.hid fun W => span_any lo len at_ W h1.1 h1.2 h2.1 h2.2)
    (Lib.hid fun x => hS.near x) (Lib.hid fun x => hS.mono (by omega)) (Lib.hid fun x => hS.bd x)
    (Lib.hid hA) (Lib.hid ⟨hS.two, by omega⟩) (Lib.hid hf) (Lib.hid hlast) hx hlr hsd ⟨by omega, by omega, by omega, by omega⟩
theorem stOk_of {l : List (Int × Int)} (h : ∀ k, k < l.length → ((0 ≤ (l.getD k (0, 0)).1 ∧ (l.getD k (0, 0)).1 ≤ 255) ∧ 0 ≤ (l.getD k (0, 0)).2 ∧ (l.getD k (0, 0)).2 ≤ 255)) : stOk l := by
  intro s hs
  obtain ⟨k, hk, rfl⟩ := List.getElem_of_mem hs
  have := h k hk
  rw [List.getD_eq_getElem?_getD, List.getElem?_eq_getElem hk] at this
  exact this
theorem QuantityBacks_walk (x : Int) (hx : (Lit.int .i16 x).wf = true) (y : Int) (hy : (Lit.int .i16 y).wf = true) {a : Option Addr} {c : Nat} {l : List (Int × Int)} {w : World} (hl : l.length ≤ maxLen) (hb : ∀ k, k < l.length → ((0 ≤ (l.getD k (0, 0)).1 ∧ (l.getD k (0, 0)).1 ≤ 255) ∧ 0 ≤ (l.getD k (0, 0)).2 ∧ (l.getD k (0, 0)).2 ≤ 255)) (hA : StAt a l w) (sd : Int) (hsd : (Lit.int .u16 sd).wf = true) (lo : Int) (h1 : (Lit.int .i16 lo).wf = true) (len : Int) (h2 : (Lit.int .i16 len).wf = true) (at_ : Int) (_ : (Lit.int .u16 at_).wf = true) :
    Calls Try.prog 4 #[.int .i16 x, .int .i16 y, .slice a l.length c, .int .u16 sd, .agg #[.int .i16 lo, .int .i16 len, .int .u16 at_]] w fun e w' => e = .returned (.bool true) ∧ Below w.heap.size w w' :=
  Backs_core x y sd lo len at_ a c l w (in16 hx) (in16 hy) (by unfold maxLen at hl; omega) (stOk_of hb) hA (inu16 hsd) (in16 h1) (in16 h2)

theorem quantityBacks_own : ownKnob Try.prog.godebug = none := by kernel_rfl
theorem quantityBacks_laidOut : laidOutB Try.prog = true := by kernel_rfl
set_option maxRecDepth 100000 in
theorem quantityBacks_lifted (os : Os) (started : os.Started) (H : Type) (enc : TypeId × Value → H) :
    ReturnsInHanded {} Try.checked os 4 .any (Rows.quantityBacksSpec.pre6 enc Try.prog Try.f4 Rows.quantityBacksRow.domain false) (Rows.quantityBacksSpec.post enc Try.prog Try.f4 false true false false) := by
  refine returnsInHanded_of_change (C := Try.checked) quantityBacks_own started (by kernel_rfl) Try.func4
    (ChangeSpec.witness6 (enc := enc) (C := Try.checked) false ⟨#[], #[.int .i16 0, .int .i16 0, .slice none 0 0, .int .u16 0, .agg #[.int .i16 0, .int .i16 0, .int .u16 0]], []⟩ 8 (by kernel_rfl) (by kernel_rfl) (by kernel_rfl) (by kernel_rfl)) ?_
  intro W base args ds gs before hval0 hW hcnd _
  have hval : ∀ (j : Nat) t v, Try.f4.params[j]? = some t → args[j]? = some v → Value.okWide Try.prog W .any base t v := hval0
  have hW' := hW
  obtain ⟨p, q, hA0, hV, rfl, hfz, hnd⟩ := hW
  have hA : DataW.TrodAll enc Try.prog W 0 (fun _ => true) true Try.f4.params.toList args.toList ds p := hA0
  rw [Try.params4] at hA hval
  obtain ⟨v0, vs0, d0, ds0, p0, q0, hargs, rfl, rfl, h0, r0⟩ := trodAll_cons hA
  obtain ⟨v1, vs1, d1, ds1, p1, q1, rfl, rfl, rfl, h1, r1⟩ := trodAll_cons r0
  obtain ⟨v2, vs2, d2, ds2, p2, q2, rfl, rfl, rfl, h2, r2⟩ := trodAll_cons r1
  obtain ⟨v3, vs3, d3, ds3, p3, q3, rfl, rfl, rfl, h3, r3⟩ := trodAll_cons r2
  obtain ⟨v4, vs4, d4, ds4, p4, q4, rfl, rfl, rfl, h4, r4⟩ := trodAll_cons r3
  obtain ⟨rfl, rfl, rfl⟩ := trodAll_nil r4
  obtain rfl : args = #[v0, v1, v2, v3, v4] := by cases args; simp_all
  obtain ⟨rfl, rfl⟩ := trodVars_none hV
  have k0 := h0
  have lt0 : ∀ x ∈ p0, x.block < W.heap.size := by obtain ⟨m, hm⟩ := k0; exact DataW.trod_lt m _ _ _ hm
  obtain ⟨a0, e0, -, -, w0⟩ := open_int Try.underlying33 (hval 0 33 v0 rfl rfl) h0
  subst e0
  have k1 := h1
  have lt1 : ∀ x ∈ p1, x.block < W.heap.size := by obtain ⟨m, hm⟩ := k1; exact DataW.trod_lt m _ _ _ hm
  obtain ⟨a1, e1, -, -, w1⟩ := open_int Try.underlying33 (hval 1 33 v1 rfl rfl) h1
  subst e1
  have k2 := h2
  have lt2 : ∀ x ∈ p2, x.block < W.heap.size := by obtain ⟨m, hm⟩ := k2; exact DataW.trod_lt m _ _ _ hm
  obtain ⟨a2_a, a2_len, a2_cap, e2⟩ := okWide_slice Try.underlying34 (hval 2 34 v2 rfl rfl)
  subst e2
  obtain ⟨m2, t2⟩ := h2
  obtain ⟨a2, c2, l2, ev2, hl2, hb2, hA2⟩ := steps_open t2
  simp only [Value.slice.injEq] at ev2
  obtain ⟨rfl, rfl, rfl⟩ := ev2
  have k3 := h3
  have lt3 : ∀ x ∈ p3, x.block < W.heap.size := by obtain ⟨m, hm⟩ := k3; exact DataW.trod_lt m _ _ _ hm
  obtain ⟨a3, e3, -, -, w3⟩ := open_int Try.underlying35 (hval 3 35 v3 rfl rfl) h3
  subst e3
  have k4 := h4
  have lt4 : ∀ x ∈ p4, x.block < W.heap.size := by obtain ⟨m, hm⟩ := k4; exact DataW.trod_lt m _ _ _ hm
  obtain ⟨c4_0, c4_1, c4_2, y4_0, y4_1, y4_2, m4, e4, -, -, g4_0, g4_1, g4_2⟩ := Joins.open_agg3 Try.underlying37 (by kernel_rfl) (show Try.prog.cellsOf 37 = 3 by kernel_rfl) (hval 4 37 v4 rfl rfl) h4
  subst e4
  obtain ⟨a4_0, b4_0, -, w4_0⟩ := DataW.trod_int Try.underlying33 g4_0
  simp only [List.cons.injEq, and_true] at b4_0
  subst b4_0
  obtain ⟨a4_1, b4_1, -, w4_1⟩ := DataW.trod_int Try.underlying33 g4_1
  simp only [List.cons.injEq, and_true] at b4_1
  subst b4_1
  obtain ⟨a4_2, b4_2, -, w4_2⟩ := DataW.trod_int Try.underlying35 g4_2
  simp only [List.cons.injEq, and_true] at b4_2
  subst b4_2
  clear hA0 hval0
  refine (QuantityBacks_walk a0 w0 a1 w1 hl2 hb2 hA2 a3 w3 a4_0 w4_0 a4_1 w4_1 a4_2 w4_2).mono fun e W' ⟨he, bel⟩ => ?_
  subst he
  exact ⟨_, rfl, _, _, _, [], _, [], hW', trodAll_mk1 (shut_bool Try.underlying4 _), (trodAll_cons_mk (Below.trod quantityBacks_laidOut (by kernel_rfl) (of_decide_eq_true (by kernel_rfl)) k0 bel lt0) (trodAll_cons_mk (Below.trod quantityBacks_laidOut (by kernel_rfl) (of_decide_eq_true (by kernel_rfl)) k1 bel lt1) (trodAll_cons_mk (Below.trod quantityBacks_laidOut (by kernel_rfl) (of_decide_eq_true (by kernel_rfl)) k2 bel lt2) (trodAll_cons_mk (Below.trod quantityBacks_laidOut (by kernel_rfl) (of_decide_eq_true (by kernel_rfl)) k3 bel lt3) (trodAll_cons_mk (Below.trod quantityBacks_laidOut (by kernel_rfl) (of_decide_eq_true (by kernel_rfl)) k4 bel lt4) trodAll_mk0))))), rfl, bel.frame _, fun h => by cases h⟩

theorem QuantityBacks_proved : Rows.QuantityBacksSaid :=
  OpenClaim.holds_of_wide 4 Try.f4 rfl rfl rfl rfl rfl rfl rfl ⟨rfl, rfl, rfl, rfl, rfl⟩ rfl rfl rfl rfl rfl (by kernel_rfl) Try.func4 (by kernel_rfl)
    (of_decide_eq_true (by kernel_rfl)) (by unfold Func.isWrapper; first | (rw [if_pos (by decide +kernel)]; kernel_rfl) | (rw [if_neg (by decide +kernel)]; exact ⟨rfl, rfl⟩))
    (fun os started H enc _ => quantityBacks_lifted os started H enc)
end Go.Proofs.Ytngnehlmbipabaa
