/-
 The score and the grade of a life.
-/
import Derived.Test.YtmpilgkfbibhlaaGreatDoorG0Y
import Derived.Test.YtmpilgkfbibhlaaGreatDoorG28Y
import Derived.LoopN
set_option linter.unusedSimpArgs false
set_option linter.unusedVariables false
namespace Go.Proofs.YtmpilgkfbibhlaaGreatDoor
open Sx Go.RowKit Mr
structure ScB (x : LifeS) : Prop where
 b : LifeB x
 a : 1 ≤ x.made.2.2.1 ∧ x.made.2.2.1 ≤ 4294967296
 t : 0 ≤ x.tes ∧ x.tes ≤ 4294967296
def lossP (x : LifeS) : Int := if x.tst = true then max 0 (1000 - x.tes * 1000 / x.made.2.2.1) else 0
def scoreP (x : LifeS) : Int := max 0 (1000 - lossP x - (x.thr / (10 * x.made.2.2.1) + x.hot / 1000 + 20 * x.fau + 5 * x.mov))
def gradeN (n : Int) : Int := if 900 ≤ n then 0 else if 750 ≤ n then 1 else if 600 ≤ n then 2 else if 400 ≤ n then 3 else 4
def gradeP (x : LifeS) : Int := if x.scr = true then 6 else if x.os.length ≠ 0 then 5 else gradeN (scoreP x)
theorem div_in {a b : Int} (ha : 0 ≤ a) (hb : 1 ≤ b) : 0 ≤ a / b ∧ a / b ≤ a := ⟨Int.ediv_nonneg ha (by omega), Int.ediv_le_self _ ha⟩
theorem idx4 (W : World) (j : Nat) (hj : j < 4) : (Instr.index 193 (.agg #[.int .i64 900, .int .i64 750, .int .i64 600, .int .i64 400]) (.int .i64 (j : Int))).run Tryz.prog W = .ok (.int .i64 ([900, 750, 600, 400].getD j 0)) W := by
 have hu := Tryz.underlying193
 have hc : Tryz.prog.cellsOf 2 = 1 := by kernel_rfl
 have h3 : j = 0 ∨ j = 1 ∨ j = 2 ∨ j = 3 := by omega
 rcases h3 with rfl | rfl | rfl | rfl
 all_goals
  simp only [Instr.index, Sem.run_bind, asIntOf, Sem.run_pure, Result.andThen_ok, run_underlying hu]
  simp
  simp only [part, Sem.run_bind, run_isAgg_plain Tryz.underlying2 rfl, Result.andThen_ok]
  rfl
set_option maxHeartbeats 4000000 in
set_option maxRecDepth 20000 in
theorem score_any {T : TypeId} {B off : Nat} {name : ByteArray} {x : LifeS} {vm vo : Value} {w : World} (h : LifeAt T B off name x vm vo w) (hs : ScB x) : Calls Tryz.prog 124 #[.pointer (some ⟨B, off, none⟩)] w fun en w' => en = .returned (.int .i64 (scoreP x)) ∧ Below w.heap.size w w' := by
 unfold scoreP lossP
 have c3 := h.cell (j := 5) rfl
 have c11 := h.cell (j := 11) rfl
 have c12 := h.cell (j := 12) rfl
 have c13 := h.cell (j := 13) rfl
 have c14 := h.cell (j := 14) rfl
 have c15 := h.cell (j := 15) rfl
 have c16 := h.cell (j := 16) rfl
 have cl := h.lt
 obtain ⟨⟨b1, b2, b3, b4, b5⟩, ha, ht⟩ := hs
 generalize x.made.2.2.1 = A at *
 generalize x.thr = th at *
 generalize x.hot = ho at *
 generalize x.tes = te at *
 generalize x.fau = fa at *
 generalize x.mov = mo at *
 have d1 := div_in (a := te * 1000) (b := A) (by omega) ha.1
 have d2 := div_in (a := th) (b := 10 * A) b2.1 (by omega)
 have d3 := div_in (a := ho) (b := 1000) b3.1 (by omega)
 have q1 : Int.tdiv (te * 1000) A = te * 1000 / A := Int.tdiv_eq_ediv_of_nonneg (by omega)
 have q2 : Int.tdiv th (10 * A) = th / (10 * A) := Int.tdiv_eq_ediv_of_nonneg b2.1
 have q3 : Int.tdiv ho 1000 = ho / 1000 := Int.tdiv_eq_ediv_of_nonneg b3.1
 have w1 : IntKind.i64.wrap (te * 1000) = te * 1000 := Go.IntWalk.i64_in _ ⟨by omega, by omega⟩
 have w2 : IntKind.i64.wrap (10 * A) = 10 * A := Go.IntWalk.i64_in _ ⟨by omega, by omega⟩
 have w3 : IntKind.i64.wrap (20 * fa) = 20 * fa := Go.IntWalk.i64_in _ ⟨by omega, by omega⟩
 have w4 : IntKind.i64.wrap (5 * mo) = 5 * mo := Go.IntWalk.i64_in _ ⟨by omega, by omega⟩
 generalize te * 1000 / A = e1 at *
 generalize th / (10 * A) = e2 at *
 generalize ho / 1000 = e3 at *
 have w5 : IntKind.i64.wrap e1 = e1 := Go.IntWalk.i64_in _ ⟨by omega, by omega⟩
 have w6 : IntKind.i64.wrap (1000 - e1) = 1000 - e1 := Go.IntWalk.i64_in _ ⟨by omega, by omega⟩
 have w7 : IntKind.i64.wrap (1000 - max 0 (1000 - e1)) = 1000 - max 0 (1000 - e1) := Go.IntWalk.i64_in _ ⟨by omega, by omega⟩
 have w8 : IntKind.i64.wrap e2 = e2 := Go.IntWalk.i64_in _ ⟨by omega, by omega⟩
 have w9 : IntKind.i64.wrap e3 = e3 := Go.IntWalk.i64_in _ ⟨by omega, by omega⟩
 have wa : IntKind.i64.wrap (e2 + e3) = e2 + e3 := Go.IntWalk.i64_in _ ⟨by omega, by omega⟩
 have wb : IntKind.i64.wrap (e2 + e3 + 20 * fa) = e2 + e3 + 20 * fa := Go.IntWalk.i64_in _ ⟨by omega, by omega⟩
 have wc : IntKind.i64.wrap (e2 + e3 + 20 * fa + 5 * mo) = e2 + e3 + 20 * fa + 5 * mo := Go.IntWalk.i64_in _ ⟨by omega, by omega⟩
 have wd : ∀ n : Int, -1000000 ≤ n ∧ n ≤ 1000 → IntKind.i64.wrap (n - (e2 + e3 + 20 * fa + 5 * mo)) = n - (e2 + e3 + 20 * fa + 5 * mo) := fun n hn => Go.IntWalk.i64_in _ ⟨by omega, by omega⟩
 have hA : (A == 0) = false := by simp; omega
 have hA2 : ¬ A = 0 := by omega
 have hM : (10 * A == 0) = false := by simp; omega
 have hM2 : ¬ 10 * A = 0 := by omega
 have HD := Lib.hid wd
 clear h b1 wd
 cases ht9 : x.tst
 ·rw [ht9] at c13
  have wz := HD.out 1000 ⟨by omega, by omega⟩
  go_enter Tryz.func124, Tryz.ntmps124
  go_upto_region 4 with fail
  have f3 := fun s : WStep w => cell_step c3 s.2
  have f11 := fun s : WStep w => cell_step c11 s.2
  have f12 := fun s : WStep w => cell_step c12 s.2
  have f15 := fun s : WStep w => cell_step c15 s.2
  have f16 := fun s : WStep w => cell_step c16 s.2
  have fl := fun s : WStep w => Nat.lt_of_lt_of_le cl (s.2).size
  refine wp_region_lock (by kernel_rfl) (by kernel_rfl) ?_
  repeat (first | (refine WQ.skip rfl rfl rfl rfl ?_; simp only [Act.put, sl1, sl2, sl3, sl4]) | ((first | (apply WQ.val; (exact rfl)) | (apply WQ.valg; (exact rfl); (exact rfl); (exact rfl))); (intro w9 hw9; obtain ⟨s9, rfl⟩ := hw9; simp [go_sem, q1, q2, q3, w1, w2, w3, w4, w5, w6, w7, w8, w9, wa, wb, wc, wz, hA, hA2, hM, hM2, f3, f11, f12, f15, f16, fl]; first | done | exact rfl); simp only [Act.put, sl1, sl2, sl3, sl4]))
  refine WQ.fin fun W4 hbn => ?_
  clear f3 f11 f12 f15 f16 fl
  go_wp2_with fail
  exact bodyPost_ret (v := .int .i64 (max 0 (1000 - (e2 + e3 + 20 * fa + 5 * mo)))) (by simp only [results, Tryz.results124]; go_simp) rfl ⟨rfl, hbn⟩
 ·rw [ht9] at c13
  have wz := HD.out (1000 - max 0 (1000 - e1)) ⟨by omega, by omega⟩
  go_enter Tryz.func124, Tryz.ntmps124
  go_upto_region 3 with fail
  have f3 := fun s : WStep w => cell_step c3 s.2
  have f14 := fun s : WStep w => cell_step c14 s.2
  have fl := fun s : WStep w => Nat.lt_of_lt_of_le cl (s.2).size
  refine wp_region_lock (by kernel_rfl) (by kernel_rfl) ?_
  repeat (first | (refine WQ.skip rfl rfl rfl rfl ?_; simp only [Act.put, sl1, sl2, sl3, sl4]) | ((first | (apply WQ.val; (exact rfl)) | (apply WQ.valg; (exact rfl); (exact rfl); (exact rfl))); (intro w9 hw9; obtain ⟨s9, rfl⟩ := hw9; simp [go_sem, q1, q2, q3, w1, w2, w3, w4, w5, w6, w7, w8, w9, wa, wb, wc, wz, hA, hA2, hM, hM2, f3, f14, fl]; first | done | exact rfl); simp only [Act.put, sl1, sl2, sl3, sl4]))
  refine WQ.fin fun W4 hb3 => ?_
  clear f3 f14 fl
  go_upto_region 4 with fail
  have f3 := fun s : WStep W4 => cell_step c3 (bStep hb3 s.2)
  have f11 := fun s : WStep W4 => cell_step c11 (bStep hb3 s.2)
  have f12 := fun s : WStep W4 => cell_step c12 (bStep hb3 s.2)
  have f15 := fun s : WStep W4 => cell_step c15 (bStep hb3 s.2)
  have f16 := fun s : WStep W4 => cell_step c16 (bStep hb3 s.2)
  have fl := fun s : WStep W4 => Nat.lt_of_lt_of_le cl ((bStep hb3 s.2)).size
  refine wp_region_lock (by kernel_rfl) (by kernel_rfl) ?_
  repeat (first | (refine WQ.skip rfl rfl rfl rfl ?_; simp only [Act.put, sl1, sl2, sl3, sl4]) | ((first | (apply WQ.val; (exact rfl)) | (apply WQ.valg; (exact rfl); (exact rfl); (exact rfl))); (intro w9 hw9; obtain ⟨s9, rfl⟩ := hw9; simp [go_sem, q1, q2, q3, w1, w2, w3, w4, w5, w6, w7, w8, w9, wa, wb, wc, wz, hA, hA2, hM, hM2, f3, f11, f12, f15, f16, fl]; first | done | exact rfl); simp only [Act.put, sl1, sl2, sl3, sl4]))
  refine WQ.fin fun W4 hbn => ?_
  clear f3 f11 f12 f15 f16 fl
  go_wp2_with fail
  exact bodyPost_ret (v := .int .i64 (max 0 (1000 - max 0 (1000 - e1) - (e2 + e3 + 20 * fa + 5 * mo)))) (by simp only [results, Tryz.results124]; go_simp) rfl ⟨rfl, bStep hb3 hbn⟩
set_option maxHeartbeats 4000000 in
set_option maxRecDepth 20000 in
theorem grade_any {T : TypeId} {B off : Nat} {name : ByteArray} {x : LifeS} {vm vo : Value} {w : World} (h : LifeAt T B off name x vm vo w) (hs : ScB x) : Calls Tryz.prog 84 #[.pointer (some ⟨B, off, none⟩)] w fun en w' => en = .returned (.int .i64 (gradeP x)) ∧ Below w.heap.size w w' := by
 have CS := Lib.hid (fun W (hW : Below w.heap.size w W) => score_any (h.step hW) hs)
 have c17 := h.open1.2.2.2.2.2.1
 have c10 := h.open1.2.2.2.2.1
 have cl := h.lt
 obtain ⟨ao, co, hvo, -⟩ := h.os
 subst hvo
 unfold gradeP
 cases hsc : x.scr
 rotate_left
 ·rw [hsc] at c17
  rw [if_pos rfl]
  clear h hs
  go_enter Tryz.func84, Tryz.ntmps84
  go_wp2_with fail
  exact bodyPost_ret (v := .int .i64 6) (by simp only [results, Tryz.results84]; go_simp) rfl ⟨rfl, (by repeat' (first | exact Below.refl _ _ | assumption | apply bDrewN | apply bDrew | apply bAlloc | (refine bSet ?_ ?_ _) | (refine bStep ?_ (by assumption)) | omega | (simp <;> omega)))⟩
 ·rw [hsc] at c17
  rw [if_neg (by decide)]
  by_cases h0 : x.os.length ≠ 0
  ·rw [if_pos h0]
   have h1 : (x.os.length : Int) > 0 := by omega
   generalize x.os.length = n at *
   clear h hs h0
   go_enter Tryz.func84, Tryz.ntmps84
   go_wp2_with fail
   exact bodyPost_ret (v := .int .i64 5) (by simp only [results, Tryz.results84]; go_simp) rfl ⟨rfl, (by repeat' (first | exact Below.refl _ _ | assumption | apply bDrewN | apply bDrew | apply bAlloc | (refine bSet ?_ ?_ _) | (refine bStep ?_ (by assumption)) | omega | (simp <;> omega)))⟩
  ·rw [if_neg h0]
   have h1 : ¬ (x.os.length : Int) > 0 := by omega
   generalize x.os.length = n at *
   generalize scoreP x = sc at *
   unfold gradeN
   clear h hs h0
   by_cases g0 : 900 ≤ sc
   ·rw [if_pos g0]
    have k0 : sc ≥ 900 := g0
    clear g0
    have ix0 : ∀ W : World, (Instr.index 193 (.agg #[.int .i64 900, .int .i64 750, .int .i64 600, .int .i64 400]) (.int .i64 0)).run Tryz.prog W = .ok (.int .i64 900) W := fun W => idx4 W 0 (by decide)
    go_enter Tryz.func84, Tryz.ntmps84
    go_wp2_with (go_at_call 124; refine (CS.out _ (Below.refl _ _)).mono ?_; rintro e w1 ⟨rfl, hb1⟩)
    refine wp_loop_rounds 6 ?_
    rw [rounds_succ]
    go_wp2_with fail
    exact bodyPost_ret (v := .int .i64 0) (by simp only [results, Tryz.results84]; go_simp) rfl ⟨rfl, bStep hb1 (by repeat' (first | exact Below.refl _ _ | assumption | apply bDrewN | apply bDrew | apply bAlloc | (refine bSet ?_ ?_ _) | (refine bStep ?_ (by assumption)) | omega | (simp <;> omega)))⟩
   ·skip
    by_cases g1 : 750 ≤ sc
    ·rw [if_neg g0, if_pos g1]
     have k0 : sc < 900 := by omega
     have k1 : sc ≥ 750 := g1
     clear g0 g1
     have ix0 : ∀ W : World, (Instr.index 193 (.agg #[.int .i64 900, .int .i64 750, .int .i64 600, .int .i64 400]) (.int .i64 0)).run Tryz.prog W = .ok (.int .i64 900) W := fun W => idx4 W 0 (by decide)
     have ix1 : ∀ W : World, (Instr.index 193 (.agg #[.int .i64 900, .int .i64 750, .int .i64 600, .int .i64 400]) (.int .i64 1)).run Tryz.prog W = .ok (.int .i64 750) W := fun W => idx4 W 1 (by decide)
     go_enter Tryz.func84, Tryz.ntmps84
     go_wp2_with (go_at_call 124; refine (CS.out _ (Below.refl _ _)).mono ?_; rintro e w1 ⟨rfl, hb1⟩)
     refine wp_loop_rounds 6 ?_
     rw [rounds_succ]
     go_wp2_with fail
     rw [rounds_succ]
     go_wp2_with fail
     exact bodyPost_ret (v := .int .i64 1) (by simp only [results, Tryz.results84]; go_simp) rfl ⟨rfl, bStep hb1 (by repeat' (first | exact Below.refl _ _ | assumption | apply bDrewN | apply bDrew | apply bAlloc | (refine bSet ?_ ?_ _) | (refine bStep ?_ (by assumption)) | omega | (simp <;> omega)))⟩
    ·skip
     by_cases g2 : 600 ≤ sc
     ·rw [if_neg g0, if_neg g1, if_pos g2]
      have k0 : sc < 900 := by omega
      have k1 : sc < 750 := by omega
      have k2 : sc ≥ 600 := g2
      clear g0 g1 g2
      have ix0 : ∀ W : World, (Instr.index 193 (.agg #[.int .i64 900, .int .i64 750, .int .i64 600, .int .i64 400]) (.int .i64 0)).run Tryz.prog W = .ok (.int .i64 900) W := fun W => idx4 W 0 (by decide)
      have ix1 : ∀ W : World, (Instr.index 193 (.agg #[.int .i64 900, .int .i64 750, .int .i64 600, .int .i64 400]) (.int .i64 1)).run Tryz.prog W = .ok (.int .i64 750) W := fun W => idx4 W 1 (by decide)
      have ix2 : ∀ W : World, (Instr.index 193 (.agg #[.int .i64 900, .int .i64 750, .int .i64 600, .int .i64 400]) (.int .i64 2)).run Tryz.prog W = .ok (.int .i64 600) W := fun W => idx4 W 2 (by decide)
      go_enter Tryz.func84, Tryz.ntmps84
      go_wp2_with (go_at_call 124; refine (CS.out _ (Below.refl _ _)).mono ?_; rintro e w1 ⟨rfl, hb1⟩)
      refine wp_loop_rounds 6 ?_
      rw [rounds_succ]
      go_wp2_with fail
      rw [rounds_succ]
      go_wp2_with fail
      rw [rounds_succ]
      go_wp2_with fail
      exact bodyPost_ret (v := .int .i64 2) (by simp only [results, Tryz.results84]; go_simp) rfl ⟨rfl, bStep hb1 (by repeat' (first | exact Below.refl _ _ | assumption | apply bDrewN | apply bDrew | apply bAlloc | (refine bSet ?_ ?_ _) | (refine bStep ?_ (by assumption)) | omega | (simp <;> omega)))⟩
     ·skip
      by_cases g3 : 400 ≤ sc
      ·rw [if_neg g0, if_neg g1, if_neg g2, if_pos g3]
       have k0 : sc < 900 := by omega
       have k1 : sc < 750 := by omega
       have k2 : sc < 600 := by omega
       have k3 : sc ≥ 400 := g3
       clear g0 g1 g2 g3
       have ix0 : ∀ W : World, (Instr.index 193 (.agg #[.int .i64 900, .int .i64 750, .int .i64 600, .int .i64 400]) (.int .i64 0)).run Tryz.prog W = .ok (.int .i64 900) W := fun W => idx4 W 0 (by decide)
       have ix1 : ∀ W : World, (Instr.index 193 (.agg #[.int .i64 900, .int .i64 750, .int .i64 600, .int .i64 400]) (.int .i64 1)).run Tryz.prog W = .ok (.int .i64 750) W := fun W => idx4 W 1 (by decide)
       have ix2 : ∀ W : World, (Instr.index 193 (.agg #[.int .i64 900, .int .i64 750, .int .i64 600, .int .i64 400]) (.int .i64 2)).run Tryz.prog W = .ok (.int .i64 600) W := fun W => idx4 W 2 (by decide)
       have ix3 : ∀ W : World, (Instr.index 193 (.agg #[.int .i64 900, .int .i64 750, .int .i64 600, .int .i64 400]) (.int .i64 3)).run Tryz.prog W = .ok (.int .i64 400) W := fun W => idx4 W 3 (by decide)
       go_enter Tryz.func84, Tryz.ntmps84
       go_wp2_with (go_at_call 124; refine (CS.out _ (Below.refl _ _)).mono ?_; rintro e w1 ⟨rfl, hb1⟩)
       refine wp_loop_rounds 6 ?_
       rw [rounds_succ]
       go_wp2_with fail
       rw [rounds_succ]
       go_wp2_with fail
       rw [rounds_succ]
       go_wp2_with fail
       rw [rounds_succ]
       go_wp2_with fail
       exact bodyPost_ret (v := .int .i64 3) (by simp only [results, Tryz.results84]; go_simp) rfl ⟨rfl, bStep hb1 (by repeat' (first | exact Below.refl _ _ | assumption | apply bDrewN | apply bDrew | apply bAlloc | (refine bSet ?_ ?_ _) | (refine bStep ?_ (by assumption)) | omega | (simp <;> omega)))⟩
      ·skip
       rw [if_neg g0, if_neg g1, if_neg g2, if_neg g3]
       have k0 : sc < 900 := by omega
       have k1 : sc < 750 := by omega
       have k2 : sc < 600 := by omega
       have k3 : sc < 400 := by omega
       clear g0 g1 g2 g3
       have ix0 : ∀ W : World, (Instr.index 193 (.agg #[.int .i64 900, .int .i64 750, .int .i64 600, .int .i64 400]) (.int .i64 0)).run Tryz.prog W = .ok (.int .i64 900) W := fun W => idx4 W 0 (by decide)
       have ix1 : ∀ W : World, (Instr.index 193 (.agg #[.int .i64 900, .int .i64 750, .int .i64 600, .int .i64 400]) (.int .i64 1)).run Tryz.prog W = .ok (.int .i64 750) W := fun W => idx4 W 1 (by decide)
       have ix2 : ∀ W : World, (Instr.index 193 (.agg #[.int .i64 900, .int .i64 750, .int .i64 600, .int .i64 400]) (.int .i64 2)).run Tryz.prog W = .ok (.int .i64 600) W := fun W => idx4 W 2 (by decide)
       have ix3 : ∀ W : World, (Instr.index 193 (.agg #[.int .i64 900, .int .i64 750, .int .i64 600, .int .i64 400]) (.int .i64 3)).run Tryz.prog W = .ok (.int .i64 400) W := fun W => idx4 W 3 (by decide)
       go_enter Tryz.func84, Tryz.ntmps84
       go_wp2_with (go_at_call 124; refine (CS.out _ (Below.refl _ _)).mono ?_; rintro e w1 ⟨rfl, hb1⟩)
       refine wp_loop_rounds 6 ?_
       rw [rounds_succ]
       go_wp2_with fail
       rw [rounds_succ]
       go_wp2_with fail
       rw [rounds_succ]
       go_wp2_with fail
       rw [rounds_succ]
       go_wp2_with fail
       rw [rounds_succ]
       go_wp2_with fail
       exact bodyPost_ret (v := .int .i64 4) (by simp only [results, Tryz.results84]; go_simp) rfl ⟨rfl, bStep hb1 (by repeat' (first | exact Below.refl _ _ | assumption | apply bDrewN | apply bDrew | apply bAlloc | (refine bSet ?_ ?_ _) | (refine bStep ?_ (by assumption)) | omega | (simp <;> omega)))⟩
end Go.Proofs.YtmpilgkfbibhlaaGreatDoor
namespace Go.Proofs.YtmpilgkfbibhlaaGreatDoor
open Sx Go.RowKit Mr
theorem made_a {t a b : Int} {nm ot : ByteArray} (h : okE 1 t a b nm ot = true) : 1 ≤ a ∧ a ≤ 4294967296 := by
 unfold okE chkE chkB at h
 simp at h
 omega
theorem test_a {t a b : Int} {nm ot : ByteArray} (h : okE 3 t a b nm ot = true) : 0 ≤ a ∧ a ≤ 4294967296 := by
 unfold okE chkE chkB at h
 simp at h
 omega
theorem life_made {nm : ByteArray} : ∀ h : List Evt, LegH nm h → (∀ e ∈ h, okX e = true) → h ≠ [] → 1 ≤ (lifeOf nm h).made.2.2.1 ∧ (lifeOf nm h).made.2.2.1 ≤ 4294967296 := by
 refine snocInd (fun _ _ c => absurd rfl c) fun h e ih hl hk _ => ?_
 have hc := hl.last
 have he := hk e (by simp)
 obtain ⟨k, t, a, b, n1, ot⟩ := e
 rw [lifeOf_snoc]
 show 1 ≤ (if k = 1 then ((k, t, a, b, n1, ot) : Evt) else (lifeOf nm h).made).2.2.1 ∧ (if k = 1 then ((k, t, a, b, n1, ot) : Evt) else (lifeOf nm h).made).2.2.1 ≤ 4294967296
 by_cases h1 : k = 1
 ·rw [if_pos h1]
  subst h1
  exact made_a he
 ·rw [if_neg h1]
  refine ih hl.init (fun e he => hk e (List.mem_append_left _ he)) (fun c => ?_)
  subst c
  unfold canR at hc
  simp at hc
  exact h1 hc
theorem life_tes (nm : ByteArray) : ∀ h : List Evt, (∀ e ∈ h, okX e = true) → 0 ≤ (lifeOf nm h).tes ∧ (lifeOf nm h).tes ≤ 4294967296 := by
 refine snocInd (fun _ => ⟨show (0 : Int) ≤ 0 by decide, show (0 : Int) ≤ 4294967296 by decide⟩) fun h e ih hk => ?_
 have he := hk e (by simp)
 have ih2 := ih fun e he => hk e (List.mem_append_left _ he)
 obtain ⟨k, t, a, b, n1, ot⟩ := e
 rw [lifeOf_snoc]
 show 0 ≤ (if k = 3 then a else (lifeOf nm h).tes) ∧ (if k = 3 then a else (lifeOf nm h).tes) ≤ 4294967296
 by_cases h1 : k = 3
 ·rw [if_pos h1]
  subst h1
  exact test_a he
 ·rw [if_neg h1]; exact ih2
theorem scB_of {nm : ByteArray} {h : List Evt} (hl : LegH nm h) (hk : ∀ e ∈ h, okX e = true) (hn : h ≠ []) (hlen : h.length ≤ 1000) : ScB (lifeOf nm h) :=
 ⟨((lifeOf_N nm h hk).lifeB (by rw [life_n]; exact hlen)).1, life_made h hl hk hn, life_tes nm h hk⟩
theorem evs_ne {es : List Ent} (h : es ≠ []) : evsOf es ≠ [] := fun c => h (by unfold evsOf at c; simpa using c)
theorem OkA.sc {a : RegA} (ho : OkA a) {p : ByteArray × List Ent} (hp : p ∈ a.ps) : ScB (lf p) := by
 obtain ⟨h1, h2, h3, h4⟩ := ho.p p hp
 exact scB_of h2 h3 (evs_ne (ho.ne p hp)) (by rw [evs_len]; omega)
set_option maxHeartbeats 4000000 in
set_option maxRecDepth 20000 in
theorem RGrade_yes {B R : Nat} {a : RegA} {g : RegS} {vb vp : Value} {w : World} (h : RegV B R vb a g vp w) (ho : OkA a) (nm : ByteArray) (p : ByteArray × List Ent) (hp : a.ps[findA nm a]? = some p) : Calls Tryz.prog 33 #[.pointer (some ⟨R, 0, none⟩), .string nm] w fun en w' => en = .returned (.tuple #[.int .i64 (gradeP (lf p)), .int .i64 0]) ∧ Below w.heap.size w w' := by
 have hok := h.ok ho.toOkB
 have hlen := h.len
 have hnp := ho.np
 have CV := Lib.hid (fun W (hW : Below w.heap.size w W) => valid_any (h.ra.step hW) hok.pt.1)
 have HB := Lib.hid (Below.refl w.heap.size w)
 have hf : findA nm a < a.ps.length := (List.getElem?_eq_some_iff.1 hp).1
 obtain ⟨PB, cp, cur, hvp, hPB, hbP, -⟩ := h.ra.packs (by rintro c; rw [c] at hlen; simp at hlen; omega)
 subst hvp
 have CF := Lib.hid (fun W (hW : Below w.heap.size w W) => find_any (h.ra.step hW) nm (by omega))
 rw [h.find, ptr_yes (by omega)] at CF
 obtain ⟨q, hq, e1, e2, e3, e4⟩ := h.get hp
 have hqm := List.mem_of_getElem? hq
 have hlv := h.ra.life rfl hq
 have CC := Lib.hid (fun W (hW : Below w.heap.size w W) => grade_any (hlv.1.step hW) (by rw [e3]; exact ho.sc (List.mem_of_getElem? hp)))
 rw [e3] at CC
 generalize gradeP (lf p) = g9 at *
 generalize findA nm a = i at *
 clear h ho hok hlen hnp hf hp hq e1 e2 e3 e4 hqm hlv hPB hbP
 go_enter Tryz.func33, Tryz.ntmps33
 go_wp2_with ((first | (go_at_call 56; refine (CV.out _ HB.out).mono ?_) | (go_at_call 57; refine (CF.out _ HB.out).mono ?_) | (go_at_call 84; refine (CC.out _ HB.out).mono ?_)); rintro e w1 ⟨rfl, hbn⟩; have HB9 := Lib.hid (bStep HB.out hbn); clear HB hbn; have HB := HB9; clear HB9)
 exact bodyPost_ret (v := .tuple #[.int .i64 g9, .int .i64 0]) (by simp only [results, Tryz.results33]; go_simp) rfl ⟨rfl, HB.out⟩
end Go.Proofs.YtmpilgkfbibhlaaGreatDoor
