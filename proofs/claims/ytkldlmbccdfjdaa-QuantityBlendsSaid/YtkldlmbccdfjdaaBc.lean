/-
  Blend of the reference: the walk.
-/
import Derived.Test.YtkldlmbccdfjdaaBb
import Derived.Test.YtkldlmbccdfjdaaBm
set_option linter.unusedSimpArgs false
set_option linter.unusedVariables false
namespace Go.Proofs.Ytkldlmbccdfjdaa
open Go.RowKit
theorem curves_good {xs ys us vs : List Int} (h : curvesS xs ys us vs = 0) : checkC xs ys = 0 ∧ checkC us vs = 0 := by
  unfold curvesS at h
  split at h
  · exact absurd h (by decide)
  · split at h
    · exact absurd h (by decide)
    · rename_i h1 h2
      exact ⟨Classical.byContradiction fun c => h2 (Or.inl c), Classical.byContradiction fun c => h2 (Or.inr c)⟩
set_option maxHeartbeats 4000000 in
set_option maxRecDepth 20000 in
theorem RBlend_any (pa pb pc pd : Option Addr) (ca cb cc cd : Nat) (xs ys us vs : List Int) (n k : Int) (w : World)
    (hx : xs.length ≤ 1000000) (hy : ys.length ≤ 1000000) (hu : us.length ≤ 1000000) (hv : vs.length ≤ 1000000) (hA : IntAt pa xs w) (hB : IntAt pb ys w) (hC : IntAt pc us w) (hD : IntAt pd vs w) :
    Calls Try.prog 11 #[.agg #[.slice pa xs.length ca, .slice pb ys.length cb], .agg #[.slice pc us.length cc, .slice pd vs.length cd], .int .i64 n, .int .i64 k] w fun e w' => ∃ v u, e = .returned (.tuple #[.agg #[v, u], .int .i64 (blendS xs ys us vs n k).2]) ∧ (IntRow v (blendS xs ys us vs n k).1.1 w' ∧ IntRow u (blendS xs ys us vs n k).1.2 w') ∧ Below w.heap.size w w' := by
  have CV := Lib.hid (fun w h1 h2 h3 h4 => Rcurves_any pa pb pc pd ca cb cc cd xs ys us vs w hx hy hu hv h1 h2 h3 h4)
  have CS := Lib.hid (fun w h1 h2 => SameI_row pa pc ca cc xs us w hx hu h1 h2)
  have HA := Lib.hid hA
  have HB := Lib.hid hB
  have HC := Lib.hid hC
  have HD := Lib.hid hD
  clear hA hB hC hD
  have NIL : ∀ W : World, IntRow (.slice none 0 0) [] W ∧ IntRow (.slice none 0 0) [] W := fun W => ⟨⟨none, 0, rfl, fun h => absurd rfl h⟩, ⟨none, 0, rfl, fun h => absurd rfl h⟩⟩
  have HNIL := Lib.hid NIL
  clear NIL
  by_cases h0 : curvesS xs ys us vs = 0
  · have hb : blendS xs ys us vs n k = if xs ≠ us then (([], []), 20) else if ¬ (isDen k = true ∧ 0 ≤ n ∧ n ≤ k) then (([], []), 2) else ((xs, blendRow ys vs n k), 0) := by
      unfold blendS; rw [h0, if_neg (by simp)]
    obtain ⟨hE, hF⟩ := curves_good h0
    obtain ⟨⟨⟨l1, l2, l3, l4⟩, -⟩, h64⟩ := checkC_good hE
    obtain ⟨⟨⟨m1, m2, m3, m4⟩, -⟩, -⟩ := checkC_good hF
    rw [h0] at CV
    clear hE hF h0 hx hy hu hv
    by_cases h1 : xs = us
    · have q1 : decide (xs = us) = true := by simp [h1]
      rw [q1] at CS
      subst h1
      rw [if_neg (by simp)] at hb
      rw [← m1] at CV ⊢
      rw [← l1] at CV ⊢
      have HL := Lib.hid (show ys.length = xs.length ∧ vs.length = xs.length from ⟨l1.symm, m1.symm⟩)
      have HQ := Lib.hid (show (∀ k, -1099511627776 ≤ ys.getD k 0 ∧ ys.getD k 0 ≤ 1099511627776) ∧ (∀ k, -1099511627776 ≤ vs.getD k 0 ∧ vs.getD k 0 ≤ 1099511627776) from ⟨allQ_getD l4, allQ_getD m4⟩)
      have hne : xs ≠ [] := fun e => by rw [e] at l2; simp at l2
      have hne2 : ys ≠ [] := fun e => by rw [e] at l1; rw [l1] at l2; simp at l2
      have hne3 : vs ≠ [] := fun e => by rw [e] at m1; rw [m1] at l2; simp at l2
      clear l1 l3 l4 m1 m3 m4 m2 q1
      by_cases h2 : isDen k = true ∧ 0 ≤ n ∧ n ≤ k
      · rw [if_neg (fun h => h h2)] at hb
        have HRes := Lib.hid hb
        clear hb
        obtain ⟨a1, a2, a3⟩ := h2
        have hk0 := (isDen_iff _).1 a1
        obtain ⟨ba, oa, rfl, fx⟩ := int_cells HA.out hne
        obtain ⟨bb, ob, rfl, fy⟩ := int_cells HB.out hne2
        obtain ⟨bd, od, rfl, fv⟩ := int_cells HD.out hne3
        have FY := Lib.hid fy
        have FV := Lib.hid fv
        have hlt0 : ba < w.heap.size := by obtain ⟨_, _, e, q, _⟩ := HA.out hne; cases e; exact q
        have HDN := Lib.hid (fun j w => Down_any (vs.getD j 0 - ys.getD j 0) n k w (by have := HQ.out.1 j; have := HQ.out.2 j; omega) (by have := HQ.out.1 j; have := HQ.out.2 j; omega) (by omega) (by omega) (by omega) (by omega) (by omega))
        clear fx fy fv hne hne2 hne3
        generalize blendS xs ys xs vs n k = R' at *
        have BX := Lib.hid (three_boxes (w := w) (o1 := .cells #[.slice (some ⟨ba, oa, none⟩) xs.length ca, .slice (some ⟨bb, ob, none⟩) xs.length cb] 24) (o2 := .cells #[.slice pc xs.length cc, .slice (some ⟨bd, od, none⟩) xs.length cd] 24) (o3 := .cells #[.slice none 0 0, .slice none 0 0] 24))
        go_enter Try.func11, Try.ntmps11
        go_upto_region 8 with (first | (go_at_call 47; refine (CV.out _ (HA.out.step (by repeat' (first | exact Below.refl _ _ | assumption | apply bDrewN | apply bDrew | apply bAlloc | (refine bSet ?_ ?_ _) | (refine bStep ?_ (by assumption)) | omega | (simp <;> omega)))) (HB.out.step (by repeat' (first | exact Below.refl _ _ | assumption | apply bDrewN | apply bDrew | apply bAlloc | (refine bSet ?_ ?_ _) | (refine bStep ?_ (by assumption)) | omega | (simp <;> omega)))) (HC.out.step (by repeat' (first | exact Below.refl _ _ | assumption | apply bDrewN | apply bDrew | apply bAlloc | (refine bSet ?_ ?_ _) | (refine bStep ?_ (by assumption)) | omega | (simp <;> omega)))) (HD.out.step (by repeat' (first | exact Below.refl _ _ | assumption | apply bDrewN | apply bDrew | apply bAlloc | (refine bSet ?_ ?_ _) | (refine bStep ?_ (by assumption)) | omega | (simp <;> omega))))).mono ?_; rintro e w1 ⟨rfl, hb1⟩; obtain ⟨BX1, BX2, BX3⟩ := BX.out; replace BX := Lib.hid (And.intro (blk_step BX1 hb1) (And.intro (blk_step BX2 hb1) (blk_step BX3 hb1))); clear BX1 BX2 BX3; obtain ⟨c0, c1, k0⟩ := cv_open BX.out.1; obtain ⟨c2, c3, k1⟩ := cv_open BX.out.2.1; obtain ⟨c4, c5, f4, f5, k2⟩ := cv_openF BX.out.2.2) | (go_at_call 43; refine (CS.out _ (HA.out.step (by repeat' (first | exact Below.refl _ _ | assumption | apply bDrewN | apply bDrew | apply bAlloc | (refine bSet ?_ ?_ _) | (refine bStep ?_ (by assumption)) | omega | (simp <;> omega)))) (HC.out.step (by repeat' (first | exact Below.refl _ _ | assumption | apply bDrewN | apply bDrew | apply bAlloc | (refine bSet ?_ ?_ _) | (refine bStep ?_ (by assumption)) | omega | (simp <;> omega))))).mono ?_; rintro e w2 ⟨rfl, hb2⟩; obtain ⟨BX1, BX2, BX3⟩ := BX.out; replace BX := Lib.hid (And.intro (blk_step BX1 hb2) (And.intro (blk_step BX2 hb2) (blk_step BX3 hb2))); clear BX1 BX2 BX3; obtain ⟨c0, c1, k0⟩ := cv_open BX.out.1; obtain ⟨c2, c3, k1⟩ := cv_open BX.out.2.1; obtain ⟨c4, c5, f4, f5, k2⟩ := cv_openF BX.out.2.2) | (go_at_call 48; refine (den_any _ _).mono ?_; rintro e w' ⟨rfl, rfl⟩))
        have hbw : Below w.heap.size w w2 := (by repeat' (first | exact Below.refl _ _ | assumption | apply bDrewN | apply bDrew | apply bAlloc | (refine bSet ?_ ?_ _) | (refine bStep ?_ (by assumption)) | omega | (simp <;> omega)))
        have hs2 : w.heap.size + 3 ≤ w2.heap.size := by have := hb1.size; have := hb2.size; simp at *; omega
        go_cut [11] (fun s11 W => ∃ (C g cx : Nat) (cur : Array Value), s11 = .pointer (some ⟨C, 0, none⟩) ∧ IntAt (some ⟨g, 0, none⟩) xs W ∧
          YQ w [(w.heap.size, .cells #[.slice (some ⟨ba, oa, none⟩) xs.length ca, .slice (some ⟨bb, ob, none⟩) xs.length cb] 24), (w.heap.size + 1, .cells #[.slice pc xs.length cc, .slice (some ⟨bd, od, none⟩) xs.length cd] 24), (g, .cells cur 2 (0, 0))] (w.heap.size + 2) C (C + 1) (.slice (some ⟨g, 0, none⟩) xs.length cx) (.slice none 0 0) [] W)
        case first =>
          have HN := Lib.hid (show xs ≠ [] from fun e => by rw [e] at l2; simp at l2)
          go_wp2_with (at_builtin; refine wpList_app_copy _ rfl (.tmp 40) (.tmp 42) rfl _ rfl w2.heap.size [] (own_new (Nat.le_refl _)) (some ⟨ba, oa, none⟩) xs ca rfl ((HA.out.step hbw).step bAlZ) (by simp; omega) (by simp) ?_; intro v' w3 hO hG hat; obtain ⟨g, cg, rfl, -, -⟩ := hO.blk (by simpa using HN.out); have hb3 : Below w2.heap.size w2 w3 := (bAlZ (W := w2)).grown hG (by simp) (by intro q e; cases e; exact Nat.le_refl _); have hcw3 := bcell hb3)
          go_meet
          obtain ⟨cur, hcur⟩ := own_type hO rfl
          obtain ⟨a', c', e', hat'⟩ := hO.row
          simp only [List.nil_append, Value.slice.injEq] at e' hat'
          obtain ⟨rfl, -, rfl⟩ := e'
          have hg := hO.lt g rfl
          have hs3 := hb3.size
          refine ⟨w3.heap.size, g, cg, cur, rfl, hat'.step bAlZ, ⟨by omega, ?_, bAlloc (bStep hbw hb3) _, by simp, blk_alloc (blk_step BX.out.2.2 hb3), blk_new w3 _, ?_, IntOwn.nil⟩⟩
          · intro p hp
            simp only [List.mem_cons, List.not_mem_nil, or_false] at hp
            rcases hp with rfl | rfl | rfl
            · exact ⟨by show w.heap.size < _; omega, by show w.heap.size ≠ _; omega, by show w.heap.size ≠ _; omega⟩
            · exact ⟨by show w.heap.size + 1 < _; omega, by show w.heap.size + 1 ≠ _; omega, by show w.heap.size + 1 ≠ _; omega⟩
            · exact ⟨by show g < _; omega, by show g ≠ _; omega, by show g ≠ _; omega⟩
          · intro p hp
            simp only [List.mem_cons, List.not_mem_nil, or_false] at hp
            rcases hp with rfl | rfl | rfl
            · exact blk_alloc (blk_step BX.out.1 hb3)
            · exact blk_alloc (blk_step BX.out.2.1 hb3)
            · exact blk_alloc hcur
        case rest =>
          obtain ⟨C, g, cx, cur, rfl, hat8, P0⟩ := hcut
          have HXo := Lib.hid (show ∀ W', W'.heap[g]? = some (.cells cur 2 (0, 0)) → IntAt (some ⟨g, 0, none⟩) xs W' from fun W' h' => hat8.of_obj (P0.sb _ (List.mem_cons_of_mem _ (List.mem_cons_of_mem _ (List.mem_cons_self ..)))) h')
          replace P0 := Lib.hid P0
          obtain ⟨R, hR⟩ : ∃ R, R = w.heap.size + 2 := ⟨_, rfl⟩
          obtain ⟨B, hBe⟩ : ∃ B, B = C + 1 := ⟨_, rfl⟩
          rw [← hR, ← hBe] at P0
          rw [← hR]
          clear hat8 hR hBe BX c0 c1 c2 c3 c4 c5 k0 k1 k2 f4 f5 CV CS hb1 hb2 hs2 hbw
          obtain ⟨j0, hj, hy0, hy1, hy2⟩ := info_parts infoI
          have hln0 : (blendRow ys vs n k).length = xs.length := by rw [blendRow_len]; exact HL.out.1
          go_wp2_with fail
          go_loopw [12] (fun i wr => ∃ (j : Nat) (vy : Value), j ≤ xs.length ∧ i = .int .i64 j ∧ Hid (YQ w [(w.heap.size, .cells #[.slice (some ⟨ba, oa, none⟩) xs.length ca, .slice (some ⟨bb, ob, none⟩) xs.length cb] 24), (w.heap.size + 1, .cells #[.slice pc xs.length cc, .slice (some ⟨bd, od, none⟩) xs.length cd] 24), (g, .cells cur 2 (0, 0))] R C B (.slice (some ⟨g, 0, none⟩) xs.length cx) vy ((blendRow ys vs n k).take j) wr)) (fun i _ => xs.length - (intOf i).toNat)
          case atStart => exact ⟨0, _, by omega, rfl, Lib.hid (by simpa using P0.out)⟩
          case round =>
            obtain ⟨j, vy, hj', rfl, P0'⟩ := hrel
            clear P0
            have P0 := P0'
            clear P0'
            obtain ⟨r0, r1, r2, r3, r4, r5, r6, r7, r8, r9⟩ := P0.out.open_
            obtain ⟨c0, c1, k0⟩ := cv_open (P0.out.sb _ (List.mem_cons_self ..))
            obtain ⟨c2, c3, k1⟩ := cv_open (P0.out.sb _ (List.mem_cons_of_mem _ (List.mem_cons_self ..)))
            have i1 : (0 : Int) ≤ (j : Int) := by omega
            by_cases hlt : j < xs.length
            · have hlt2 : (j : Int) < xs.length := by omega
              have hly : j < ys.length := by rw [HL.out.1]; exact hlt
              have hlv : j < vs.length := by rw [HL.out.2]; exact hlt
              have HY := Lib.hid (FY.out j hly)
              have HV := Lib.hid (FV.out j hlv)
              have z1 := HQ.out.1 j
              have z2 := HQ.out.2 j
              have HD1 := Lib.hid (HDN.out j)
              have hwr := bmix_wrap (y := ys.getD j 0) (v := vs.getD j 0) (n := n) (k := k) z1 (by omega)
              have HT := Lib.hid (blend_more (ys := ys) (vs := vs) (n := n) (d := k) hly)
              have hln : Hid (((blendRow ys vs n k).take j).length ≤ 64) := by
                unfold Hid
                simp only [List.length_take]
                omega
              have s1 := P0.out.row HY.out
              have s2 := P0.out.row HV.out
              clear HQ FY FV hly hlv HDN HRes HL
              unfold bmix at hwr HT
              generalize (blendRow ys vs n k).take j = RY at *
              generalize ys.getD j 0 = y1 at *
              generalize vs.getD j 0 = v1 at *
              have a4 : IntKind.i64.wrap (v1 - y1) = v1 - y1 := Go.IntWalk.i64_in _ ⟨by omega, by omega⟩
              generalize hx1 : v1 - y1 = x1 at *
              generalize dn x1 n k = q1 at *
              have a5 : IntKind.i64.wrap (y1 + q1) = y1 + q1 := Go.IntWalk.i64_in _ ⟨by omega, by omega⟩
              clear hwr hln0
              go_upto_region 12 with fail
              refine region_chain 25 22 23 74 75 16 [(52, (.pointer (some ⟨C, 1, none⟩))), (53, vy), (54, (.pointer (some ⟨w.heap.size, 1, none⟩))), (55, (.slice (some ⟨bb, ob, none⟩) xs.length cb)), (56, (.int .i64 (j : Int))), (57, (.pointer (some ⟨bb, ob + j, none⟩))), (58, (.int .i64 y1)), (59, (.pointer (some ⟨w.heap.size + 1, 1, none⟩))), (60, (.slice (some ⟨bd, od, none⟩) xs.length cd)), (61, (.int .i64 (j : Int))), (62, (.pointer (some ⟨bd, od + j, none⟩))), (63, (.int .i64 v1)), (64, (.pointer (some ⟨w.heap.size, 1, none⟩))), (65, (.slice (some ⟨bb, ob, none⟩) xs.length cb)), (66, (.int .i64 (j : Int))), (67, (.pointer (some ⟨bb, ob + j, none⟩))), (68, (.int .i64 y1)), (69, (.int .i64 x1)), (70, (.int .i64 n)), (71, (.int .i64 k)), (72, (.int .i64 q1)), (73, (.int .i64 (y1 + q1))), (76, (.pointer (some ⟨C, 1, none⟩)))] (StQ w [(w.heap.size, .cells #[.slice (some ⟨ba, oa, none⟩) xs.length ca, .slice (some ⟨bb, ob, none⟩) xs.length cb] 24), (w.heap.size + 1, .cells #[.slice pc xs.length cc, .slice (some ⟨bd, od, none⟩) xs.length cd] 24), (g, .cells cur 2 (0, 0))] R C B #[(.slice (some ⟨g, 0, none⟩) xs.length cx), vy] vy RY (.slice none 0 0) [] (y1 + q1)) (by kernel_rfl) (by kernel_rfl) rfl (by kernel_rfl) (by kernel_rfl) (by kernel_rfl) (by decide) (by decide) (by decide) (fun _ => by simp) (fun _ => by simp) (by rfl) ?h0 ?reads ?eff1 ?eff2 ?tail
              case h0 =>
                intro v1 v2
                exact YQ.start P0.out
              case reads =>
                simp only [List.take_succ_cons, List.take_zero, AllRd]
                refine ⟨?_, ?_, ?_, ?_, ?_, ?_, ?_, ?_, ?_, ?_, ?_, ?_, ?_, ?_, ?_, ?_, ?_, ?_, ?_, ?_, ?_, ?_, ?_, ?_, ?_, trivial⟩
                · (intro hn1 hn2; clear hn1 hn2; refine ⟨52, (.pointer (some ⟨C, 1, none⟩)), rfl, by kernel_rfl, ?_⟩; intro b1 b2 v1 v2 W h; have HST := Lib.hid h; obtain ⟨g0, g1, g2, g3, g4⟩ := h.cell; obtain ⟨f0, f1, f2⟩ := cv_open (h.sb _ (List.mem_cons_self ..)); obtain ⟨e0, e1, e2⟩ := cv_open (h.sb _ (List.mem_cons_of_mem _ (List.mem_cons_self ..))); have g5 := h.row HY.out; have g6 := h.row HV.out; have hlim := h.lim; intro K Q hK; simp only [updAll, Act.put, List.setIfInBounds_toArray, List.set_cons_zero, List.set_cons_succ, List.set_nil] at hK ⊢; go_wp2_with (go_at_call 49; refine (HD1.out _).mono ?_; rintro e w' ⟨rfl, kk, rfl⟩); all_goals (first | exact hK _ (by first | exact h | exact h.step (by repeat' (first | exact Below.refl _ _ | apply bDrewN | apply bDrew))) | exact (by first | exact h | exact h.step (by repeat' (first | exact Below.refl _ _ | apply bDrewN | apply bDrew)))))
                · (intro hn1 hn2; clear hn1 hn2; refine ⟨53, vy, rfl, by kernel_rfl, ?_⟩; intro b1 b2 v1 v2 W h; have HST := Lib.hid h; obtain ⟨g0, g1, g2, g3, g4⟩ := h.cell; obtain ⟨f0, f1, f2⟩ := cv_open (h.sb _ (List.mem_cons_self ..)); obtain ⟨e0, e1, e2⟩ := cv_open (h.sb _ (List.mem_cons_of_mem _ (List.mem_cons_self ..))); have g5 := h.row HY.out; have g6 := h.row HV.out; have hlim := h.lim; intro K Q hK; simp only [updAll, Act.put, List.setIfInBounds_toArray, List.set_cons_zero, List.set_cons_succ, List.set_nil] at hK ⊢; go_wp2_with (go_at_call 49; refine (HD1.out _).mono ?_; rintro e w' ⟨rfl, kk, rfl⟩); all_goals (first | exact hK _ (by first | exact h | exact h.step (by repeat' (first | exact Below.refl _ _ | apply bDrewN | apply bDrew))) | exact (by first | exact h | exact h.step (by repeat' (first | exact Below.refl _ _ | apply bDrewN | apply bDrew)))))
                · (intro hn1 hn2; clear hn1 hn2; refine ⟨54, (.pointer (some ⟨w.heap.size, 1, none⟩)), rfl, by kernel_rfl, ?_⟩; intro b1 b2 v1 v2 W h; have HST := Lib.hid h; obtain ⟨g0, g1, g2, g3, g4⟩ := h.cell; obtain ⟨f0, f1, f2⟩ := cv_open (h.sb _ (List.mem_cons_self ..)); obtain ⟨e0, e1, e2⟩ := cv_open (h.sb _ (List.mem_cons_of_mem _ (List.mem_cons_self ..))); have g5 := h.row HY.out; have g6 := h.row HV.out; have hlim := h.lim; intro K Q hK; simp only [updAll, Act.put, List.setIfInBounds_toArray, List.set_cons_zero, List.set_cons_succ, List.set_nil] at hK ⊢; go_wp2_with (go_at_call 49; refine (HD1.out _).mono ?_; rintro e w' ⟨rfl, kk, rfl⟩); all_goals (first | exact hK _ (by first | exact h | exact h.step (by repeat' (first | exact Below.refl _ _ | apply bDrewN | apply bDrew))) | exact (by first | exact h | exact h.step (by repeat' (first | exact Below.refl _ _ | apply bDrewN | apply bDrew)))))
                · (intro hn1 hn2; clear hn1 hn2; refine ⟨55, (.slice (some ⟨bb, ob, none⟩) xs.length cb), rfl, by kernel_rfl, ?_⟩; intro b1 b2 v1 v2 W h; have HST := Lib.hid h; obtain ⟨g0, g1, g2, g3, g4⟩ := h.cell; obtain ⟨f0, f1, f2⟩ := cv_open (h.sb _ (List.mem_cons_self ..)); obtain ⟨e0, e1, e2⟩ := cv_open (h.sb _ (List.mem_cons_of_mem _ (List.mem_cons_self ..))); have g5 := h.row HY.out; have g6 := h.row HV.out; have hlim := h.lim; intro K Q hK; simp only [updAll, Act.put, List.setIfInBounds_toArray, List.set_cons_zero, List.set_cons_succ, List.set_nil] at hK ⊢; go_wp2_with (go_at_call 49; refine (HD1.out _).mono ?_; rintro e w' ⟨rfl, kk, rfl⟩); all_goals (first | exact hK _ (by first | exact h | exact h.step (by repeat' (first | exact Below.refl _ _ | apply bDrewN | apply bDrew))) | exact (by first | exact h | exact h.step (by repeat' (first | exact Below.refl _ _ | apply bDrewN | apply bDrew)))))
                · (intro hn1 hn2; clear hn1 hn2; refine ⟨56, (.int .i64 (j : Int)), rfl, by kernel_rfl, ?_⟩; intro b1 b2 v1 v2 W h; have HST := Lib.hid h; obtain ⟨g0, g1, g2, g3, g4⟩ := h.cell; obtain ⟨f0, f1, f2⟩ := cv_open (h.sb _ (List.mem_cons_self ..)); obtain ⟨e0, e1, e2⟩ := cv_open (h.sb _ (List.mem_cons_of_mem _ (List.mem_cons_self ..))); have g5 := h.row HY.out; have g6 := h.row HV.out; have hlim := h.lim; intro K Q hK; simp only [updAll, Act.put, List.setIfInBounds_toArray, List.set_cons_zero, List.set_cons_succ, List.set_nil] at hK ⊢; go_wp2_with (go_at_call 49; refine (HD1.out _).mono ?_; rintro e w' ⟨rfl, kk, rfl⟩); all_goals (first | exact hK _ (by first | exact h | exact h.step (by repeat' (first | exact Below.refl _ _ | apply bDrewN | apply bDrew))) | exact (by first | exact h | exact h.step (by repeat' (first | exact Below.refl _ _ | apply bDrewN | apply bDrew)))))
                · (intro hn1 hn2; clear hn1 hn2; refine ⟨57, (.pointer (some ⟨bb, ob + j, none⟩)), rfl, by kernel_rfl, ?_⟩; intro b1 b2 v1 v2 W h; have HST := Lib.hid h; obtain ⟨g0, g1, g2, g3, g4⟩ := h.cell; obtain ⟨f0, f1, f2⟩ := cv_open (h.sb _ (List.mem_cons_self ..)); obtain ⟨e0, e1, e2⟩ := cv_open (h.sb _ (List.mem_cons_of_mem _ (List.mem_cons_self ..))); have g5 := h.row HY.out; have g6 := h.row HV.out; have hlim := h.lim; intro K Q hK; simp only [updAll, Act.put, List.setIfInBounds_toArray, List.set_cons_zero, List.set_cons_succ, List.set_nil] at hK ⊢; go_wp2_with (go_at_call 49; refine (HD1.out _).mono ?_; rintro e w' ⟨rfl, kk, rfl⟩); all_goals (first | exact hK _ (by first | exact h | exact h.step (by repeat' (first | exact Below.refl _ _ | apply bDrewN | apply bDrew))) | exact (by first | exact h | exact h.step (by repeat' (first | exact Below.refl _ _ | apply bDrewN | apply bDrew)))))
                · (intro hn1 hn2; clear hn1 hn2; refine ⟨58, (.int .i64 y1), rfl, by kernel_rfl, ?_⟩; intro b1 b2 v1 v2 W h; have HST := Lib.hid h; obtain ⟨g0, g1, g2, g3, g4⟩ := h.cell; obtain ⟨f0, f1, f2⟩ := cv_open (h.sb _ (List.mem_cons_self ..)); obtain ⟨e0, e1, e2⟩ := cv_open (h.sb _ (List.mem_cons_of_mem _ (List.mem_cons_self ..))); have g5 := h.row HY.out; have g6 := h.row HV.out; have hlim := h.lim; intro K Q hK; simp only [updAll, Act.put, List.setIfInBounds_toArray, List.set_cons_zero, List.set_cons_succ, List.set_nil] at hK ⊢; go_wp2_with (go_at_call 49; refine (HD1.out _).mono ?_; rintro e w' ⟨rfl, kk, rfl⟩); all_goals (first | exact hK _ (by first | exact h | exact h.step (by repeat' (first | exact Below.refl _ _ | apply bDrewN | apply bDrew))) | exact (by first | exact h | exact h.step (by repeat' (first | exact Below.refl _ _ | apply bDrewN | apply bDrew)))))
                · (intro hn1 hn2; clear hn1 hn2; refine ⟨59, (.pointer (some ⟨w.heap.size + 1, 1, none⟩)), rfl, by kernel_rfl, ?_⟩; intro b1 b2 v1 v2 W h; have HST := Lib.hid h; obtain ⟨g0, g1, g2, g3, g4⟩ := h.cell; obtain ⟨f0, f1, f2⟩ := cv_open (h.sb _ (List.mem_cons_self ..)); obtain ⟨e0, e1, e2⟩ := cv_open (h.sb _ (List.mem_cons_of_mem _ (List.mem_cons_self ..))); have g5 := h.row HY.out; have g6 := h.row HV.out; have hlim := h.lim; intro K Q hK; simp only [updAll, Act.put, List.setIfInBounds_toArray, List.set_cons_zero, List.set_cons_succ, List.set_nil] at hK ⊢; go_wp2_with (go_at_call 49; refine (HD1.out _).mono ?_; rintro e w' ⟨rfl, kk, rfl⟩); all_goals (first | exact hK _ (by first | exact h | exact h.step (by repeat' (first | exact Below.refl _ _ | apply bDrewN | apply bDrew))) | exact (by first | exact h | exact h.step (by repeat' (first | exact Below.refl _ _ | apply bDrewN | apply bDrew)))))
                · (intro hn1 hn2; clear hn1 hn2; refine ⟨60, (.slice (some ⟨bd, od, none⟩) xs.length cd), rfl, by kernel_rfl, ?_⟩; intro b1 b2 v1 v2 W h; have HST := Lib.hid h; obtain ⟨g0, g1, g2, g3, g4⟩ := h.cell; obtain ⟨f0, f1, f2⟩ := cv_open (h.sb _ (List.mem_cons_self ..)); obtain ⟨e0, e1, e2⟩ := cv_open (h.sb _ (List.mem_cons_of_mem _ (List.mem_cons_self ..))); have g5 := h.row HY.out; have g6 := h.row HV.out; have hlim := h.lim; intro K Q hK; simp only [updAll, Act.put, List.setIfInBounds_toArray, List.set_cons_zero, List.set_cons_succ, List.set_nil] at hK ⊢; go_wp2_with (go_at_call 49; refine (HD1.out _).mono ?_; rintro e w' ⟨rfl, kk, rfl⟩); all_goals (first | exact hK _ (by first | exact h | exact h.step (by repeat' (first | exact Below.refl _ _ | apply bDrewN | apply bDrew))) | exact (by first | exact h | exact h.step (by repeat' (first | exact Below.refl _ _ | apply bDrewN | apply bDrew)))))
                · (intro hn1 hn2; clear hn1 hn2; refine ⟨61, (.int .i64 (j : Int)), rfl, by kernel_rfl, ?_⟩; intro b1 b2 v1 v2 W h; have HST := Lib.hid h; obtain ⟨g0, g1, g2, g3, g4⟩ := h.cell; obtain ⟨f0, f1, f2⟩ := cv_open (h.sb _ (List.mem_cons_self ..)); obtain ⟨e0, e1, e2⟩ := cv_open (h.sb _ (List.mem_cons_of_mem _ (List.mem_cons_self ..))); have g5 := h.row HY.out; have g6 := h.row HV.out; have hlim := h.lim; intro K Q hK; simp only [updAll, Act.put, List.setIfInBounds_toArray, List.set_cons_zero, List.set_cons_succ, List.set_nil] at hK ⊢; go_wp2_with (go_at_call 49; refine (HD1.out _).mono ?_; rintro e w' ⟨rfl, kk, rfl⟩); all_goals (first | exact hK _ (by first | exact h | exact h.step (by repeat' (first | exact Below.refl _ _ | apply bDrewN | apply bDrew))) | exact (by first | exact h | exact h.step (by repeat' (first | exact Below.refl _ _ | apply bDrewN | apply bDrew)))))
                · (intro hn1 hn2; clear hn1 hn2; refine ⟨62, (.pointer (some ⟨bd, od + j, none⟩)), rfl, by kernel_rfl, ?_⟩; intro b1 b2 v1 v2 W h; have HST := Lib.hid h; obtain ⟨g0, g1, g2, g3, g4⟩ := h.cell; obtain ⟨f0, f1, f2⟩ := cv_open (h.sb _ (List.mem_cons_self ..)); obtain ⟨e0, e1, e2⟩ := cv_open (h.sb _ (List.mem_cons_of_mem _ (List.mem_cons_self ..))); have g5 := h.row HY.out; have g6 := h.row HV.out; have hlim := h.lim; intro K Q hK; simp only [updAll, Act.put, List.setIfInBounds_toArray, List.set_cons_zero, List.set_cons_succ, List.set_nil] at hK ⊢; go_wp2_with (go_at_call 49; refine (HD1.out _).mono ?_; rintro e w' ⟨rfl, kk, rfl⟩); all_goals (first | exact hK _ (by first | exact h | exact h.step (by repeat' (first | exact Below.refl _ _ | apply bDrewN | apply bDrew))) | exact (by first | exact h | exact h.step (by repeat' (first | exact Below.refl _ _ | apply bDrewN | apply bDrew)))))
                · (intro hn1 hn2; clear hn1 hn2; refine ⟨63, (.int .i64 v1), rfl, by kernel_rfl, ?_⟩; intro b1 b2 v1 v2 W h; have HST := Lib.hid h; obtain ⟨g0, g1, g2, g3, g4⟩ := h.cell; obtain ⟨f0, f1, f2⟩ := cv_open (h.sb _ (List.mem_cons_self ..)); obtain ⟨e0, e1, e2⟩ := cv_open (h.sb _ (List.mem_cons_of_mem _ (List.mem_cons_self ..))); have g5 := h.row HY.out; have g6 := h.row HV.out; have hlim := h.lim; intro K Q hK; simp only [updAll, Act.put, List.setIfInBounds_toArray, List.set_cons_zero, List.set_cons_succ, List.set_nil] at hK ⊢; go_wp2_with (go_at_call 49; refine (HD1.out _).mono ?_; rintro e w' ⟨rfl, kk, rfl⟩); all_goals (first | exact hK _ (by first | exact h | exact h.step (by repeat' (first | exact Below.refl _ _ | apply bDrewN | apply bDrew))) | exact (by first | exact h | exact h.step (by repeat' (first | exact Below.refl _ _ | apply bDrewN | apply bDrew)))))
                · (intro hn1 hn2; clear hn1 hn2; refine ⟨64, (.pointer (some ⟨w.heap.size, 1, none⟩)), rfl, by kernel_rfl, ?_⟩; intro b1 b2 v1 v2 W h; have HST := Lib.hid h; obtain ⟨g0, g1, g2, g3, g4⟩ := h.cell; obtain ⟨f0, f1, f2⟩ := cv_open (h.sb _ (List.mem_cons_self ..)); obtain ⟨e0, e1, e2⟩ := cv_open (h.sb _ (List.mem_cons_of_mem _ (List.mem_cons_self ..))); have g5 := h.row HY.out; have g6 := h.row HV.out; have hlim := h.lim; intro K Q hK; simp only [updAll, Act.put, List.setIfInBounds_toArray, List.set_cons_zero, List.set_cons_succ, List.set_nil] at hK ⊢; go_wp2_with (go_at_call 49; refine (HD1.out _).mono ?_; rintro e w' ⟨rfl, kk, rfl⟩); all_goals (first | exact hK _ (by first | exact h | exact h.step (by repeat' (first | exact Below.refl _ _ | apply bDrewN | apply bDrew))) | exact (by first | exact h | exact h.step (by repeat' (first | exact Below.refl _ _ | apply bDrewN | apply bDrew)))))
                · (intro hn1 hn2; clear hn1 hn2; refine ⟨65, (.slice (some ⟨bb, ob, none⟩) xs.length cb), rfl, by kernel_rfl, ?_⟩; intro b1 b2 v1 v2 W h; have HST := Lib.hid h; obtain ⟨g0, g1, g2, g3, g4⟩ := h.cell; obtain ⟨f0, f1, f2⟩ := cv_open (h.sb _ (List.mem_cons_self ..)); obtain ⟨e0, e1, e2⟩ := cv_open (h.sb _ (List.mem_cons_of_mem _ (List.mem_cons_self ..))); have g5 := h.row HY.out; have g6 := h.row HV.out; have hlim := h.lim; intro K Q hK; simp only [updAll, Act.put, List.setIfInBounds_toArray, List.set_cons_zero, List.set_cons_succ, List.set_nil] at hK ⊢; go_wp2_with (go_at_call 49; refine (HD1.out _).mono ?_; rintro e w' ⟨rfl, kk, rfl⟩); all_goals (first | exact hK _ (by first | exact h | exact h.step (by repeat' (first | exact Below.refl _ _ | apply bDrewN | apply bDrew))) | exact (by first | exact h | exact h.step (by repeat' (first | exact Below.refl _ _ | apply bDrewN | apply bDrew)))))
                · (intro hn1 hn2; clear hn1 hn2; refine ⟨66, (.int .i64 (j : Int)), rfl, by kernel_rfl, ?_⟩; intro b1 b2 v1 v2 W h; have HST := Lib.hid h; obtain ⟨g0, g1, g2, g3, g4⟩ := h.cell; obtain ⟨f0, f1, f2⟩ := cv_open (h.sb _ (List.mem_cons_self ..)); obtain ⟨e0, e1, e2⟩ := cv_open (h.sb _ (List.mem_cons_of_mem _ (List.mem_cons_self ..))); have g5 := h.row HY.out; have g6 := h.row HV.out; have hlim := h.lim; intro K Q hK; simp only [updAll, Act.put, List.setIfInBounds_toArray, List.set_cons_zero, List.set_cons_succ, List.set_nil] at hK ⊢; go_wp2_with (go_at_call 49; refine (HD1.out _).mono ?_; rintro e w' ⟨rfl, kk, rfl⟩); all_goals (first | exact hK _ (by first | exact h | exact h.step (by repeat' (first | exact Below.refl _ _ | apply bDrewN | apply bDrew))) | exact (by first | exact h | exact h.step (by repeat' (first | exact Below.refl _ _ | apply bDrewN | apply bDrew)))))
                · (intro hn1 hn2; clear hn1 hn2; refine ⟨67, (.pointer (some ⟨bb, ob + j, none⟩)), rfl, by kernel_rfl, ?_⟩; intro b1 b2 v1 v2 W h; have HST := Lib.hid h; obtain ⟨g0, g1, g2, g3, g4⟩ := h.cell; obtain ⟨f0, f1, f2⟩ := cv_open (h.sb _ (List.mem_cons_self ..)); obtain ⟨e0, e1, e2⟩ := cv_open (h.sb _ (List.mem_cons_of_mem _ (List.mem_cons_self ..))); have g5 := h.row HY.out; have g6 := h.row HV.out; have hlim := h.lim; intro K Q hK; simp only [updAll, Act.put, List.setIfInBounds_toArray, List.set_cons_zero, List.set_cons_succ, List.set_nil] at hK ⊢; go_wp2_with (go_at_call 49; refine (HD1.out _).mono ?_; rintro e w' ⟨rfl, kk, rfl⟩); all_goals (first | exact hK _ (by first | exact h | exact h.step (by repeat' (first | exact Below.refl _ _ | apply bDrewN | apply bDrew))) | exact (by first | exact h | exact h.step (by repeat' (first | exact Below.refl _ _ | apply bDrewN | apply bDrew)))))
                · (intro hn1 hn2; clear hn1 hn2; refine ⟨68, (.int .i64 y1), rfl, by kernel_rfl, ?_⟩; intro b1 b2 v1 v2 W h; have HST := Lib.hid h; obtain ⟨g0, g1, g2, g3, g4⟩ := h.cell; obtain ⟨f0, f1, f2⟩ := cv_open (h.sb _ (List.mem_cons_self ..)); obtain ⟨e0, e1, e2⟩ := cv_open (h.sb _ (List.mem_cons_of_mem _ (List.mem_cons_self ..))); have g5 := h.row HY.out; have g6 := h.row HV.out; have hlim := h.lim; intro K Q hK; simp only [updAll, Act.put, List.setIfInBounds_toArray, List.set_cons_zero, List.set_cons_succ, List.set_nil] at hK ⊢; go_wp2_with (go_at_call 49; refine (HD1.out _).mono ?_; rintro e w' ⟨rfl, kk, rfl⟩); all_goals (first | exact hK _ (by first | exact h | exact h.step (by repeat' (first | exact Below.refl _ _ | apply bDrewN | apply bDrew))) | exact (by first | exact h | exact h.step (by repeat' (first | exact Below.refl _ _ | apply bDrewN | apply bDrew)))))
                · (intro hn1 hn2; clear hn1 hn2; refine ⟨69, (.int .i64 x1), rfl, by kernel_rfl, ?_⟩; intro b1 b2 v1 v2 W h; have HST := Lib.hid h; obtain ⟨g0, g1, g2, g3, g4⟩ := h.cell; obtain ⟨f0, f1, f2⟩ := cv_open (h.sb _ (List.mem_cons_self ..)); obtain ⟨e0, e1, e2⟩ := cv_open (h.sb _ (List.mem_cons_of_mem _ (List.mem_cons_self ..))); have g5 := h.row HY.out; have g6 := h.row HV.out; have hlim := h.lim; intro K Q hK; simp only [updAll, Act.put, List.setIfInBounds_toArray, List.set_cons_zero, List.set_cons_succ, List.set_nil] at hK ⊢; go_wp2_with (go_at_call 49; refine (HD1.out _).mono ?_; rintro e w' ⟨rfl, kk, rfl⟩); all_goals (first | exact hK _ (by first | exact h | exact h.step (by repeat' (first | exact Below.refl _ _ | apply bDrewN | apply bDrew))) | exact (by first | exact h | exact h.step (by repeat' (first | exact Below.refl _ _ | apply bDrewN | apply bDrew)))))
                · (intro hn1 hn2; clear hn1 hn2; refine ⟨70, (.int .i64 n), rfl, by kernel_rfl, ?_⟩; intro b1 b2 v1 v2 W h; have HST := Lib.hid h; obtain ⟨g0, g1, g2, g3, g4⟩ := h.cell; obtain ⟨f0, f1, f2⟩ := cv_open (h.sb _ (List.mem_cons_self ..)); obtain ⟨e0, e1, e2⟩ := cv_open (h.sb _ (List.mem_cons_of_mem _ (List.mem_cons_self ..))); have g5 := h.row HY.out; have g6 := h.row HV.out; have hlim := h.lim; intro K Q hK; simp only [updAll, Act.put, List.setIfInBounds_toArray, List.set_cons_zero, List.set_cons_succ, List.set_nil] at hK ⊢; go_wp2_with (go_at_call 49; refine (HD1.out _).mono ?_; rintro e w' ⟨rfl, kk, rfl⟩); all_goals (first | exact hK _ (by first | exact h | exact h.step (by repeat' (first | exact Below.refl _ _ | apply bDrewN | apply bDrew))) | exact (by first | exact h | exact h.step (by repeat' (first | exact Below.refl _ _ | apply bDrewN | apply bDrew)))))
                · (intro hn1 hn2; clear hn1 hn2; refine ⟨71, (.int .i64 k), rfl, by kernel_rfl, ?_⟩; intro b1 b2 v1 v2 W h; have HST := Lib.hid h; obtain ⟨g0, g1, g2, g3, g4⟩ := h.cell; obtain ⟨f0, f1, f2⟩ := cv_open (h.sb _ (List.mem_cons_self ..)); obtain ⟨e0, e1, e2⟩ := cv_open (h.sb _ (List.mem_cons_of_mem _ (List.mem_cons_self ..))); have g5 := h.row HY.out; have g6 := h.row HV.out; have hlim := h.lim; intro K Q hK; simp only [updAll, Act.put, List.setIfInBounds_toArray, List.set_cons_zero, List.set_cons_succ, List.set_nil] at hK ⊢; go_wp2_with (go_at_call 49; refine (HD1.out _).mono ?_; rintro e w' ⟨rfl, kk, rfl⟩); all_goals (first | exact hK _ (by first | exact h | exact h.step (by repeat' (first | exact Below.refl _ _ | apply bDrewN | apply bDrew))) | exact (by first | exact h | exact h.step (by repeat' (first | exact Below.refl _ _ | apply bDrewN | apply bDrew)))))
                · (intro hn1 hn2; clear hn1 hn2; refine ⟨72, (.int .i64 q1), rfl, by kernel_rfl, ?_⟩; intro b1 b2 v1 v2 W h; have HST := Lib.hid h; obtain ⟨g0, g1, g2, g3, g4⟩ := h.cell; obtain ⟨f0, f1, f2⟩ := cv_open (h.sb _ (List.mem_cons_self ..)); obtain ⟨e0, e1, e2⟩ := cv_open (h.sb _ (List.mem_cons_of_mem _ (List.mem_cons_self ..))); have g5 := h.row HY.out; have g6 := h.row HV.out; have hlim := h.lim; intro K Q hK; simp only [updAll, Act.put, List.setIfInBounds_toArray, List.set_cons_zero, List.set_cons_succ, List.set_nil] at hK ⊢; go_wp2_with (go_at_call 49; refine (HD1.out _).mono ?_; rintro e w' ⟨rfl, kk, rfl⟩); all_goals (first | exact hK _ (by first | exact h | exact h.step (by repeat' (first | exact Below.refl _ _ | apply bDrewN | apply bDrew))) | exact (by first | exact h | exact h.step (by repeat' (first | exact Below.refl _ _ | apply bDrewN | apply bDrew)))))
                · (intro hn1 hn2; clear hn1 hn2; refine ⟨73, (.int .i64 (y1 + q1)), rfl, by kernel_rfl, ?_⟩; intro b1 b2 v1 v2 W h; have HST := Lib.hid h; obtain ⟨g0, g1, g2, g3, g4⟩ := h.cell; obtain ⟨f0, f1, f2⟩ := cv_open (h.sb _ (List.mem_cons_self ..)); obtain ⟨e0, e1, e2⟩ := cv_open (h.sb _ (List.mem_cons_of_mem _ (List.mem_cons_self ..))); have g5 := h.row HY.out; have g6 := h.row HV.out; have hlim := h.lim; intro K Q hK; simp only [updAll, Act.put, List.setIfInBounds_toArray, List.set_cons_zero, List.set_cons_succ, List.set_nil] at hK ⊢; go_wp2_with (go_at_call 49; refine (HD1.out _).mono ?_; rintro e w' ⟨rfl, kk, rfl⟩); all_goals (first | exact hK _ (by first | exact h | exact h.step (by repeat' (first | exact Below.refl _ _ | apply bDrewN | apply bDrew))) | exact (by first | exact h | exact h.step (by repeat' (first | exact Below.refl _ _ | apply bDrewN | apply bDrew)))))
                · intro hn1 hn2; exact absurd rfl hn1
                · intro hn1 hn2; exact absurd rfl hn2
                · (intro hn1 hn2; clear hn1 hn2; refine ⟨76, (.pointer (some ⟨C, 1, none⟩)), rfl, by kernel_rfl, ?_⟩; intro b1 b2 v1 v2 W h; have HST := Lib.hid h; obtain ⟨g0, g1, g2, g3, g4⟩ := h.cell; obtain ⟨f0, f1, f2⟩ := cv_open (h.sb _ (List.mem_cons_self ..)); obtain ⟨e0, e1, e2⟩ := cv_open (h.sb _ (List.mem_cons_of_mem _ (List.mem_cons_self ..))); have g5 := h.row HY.out; have g6 := h.row HV.out; have hlim := h.lim; intro K Q hK; simp only [updAll, Act.put, List.setIfInBounds_toArray, List.set_cons_zero, List.set_cons_succ, List.set_nil] at hK ⊢; go_wp2_with (go_at_call 49; refine (HD1.out _).mono ?_; rintro e w' ⟨rfl, kk, rfl⟩); all_goals (first | exact hK _ (by first | exact h | exact h.step (by repeat' (first | exact Below.refl _ _ | apply bDrewN | apply bDrew))) | exact (by first | exact h | exact h.step (by repeat' (first | exact Below.refl _ _ | apply bDrewN | apply bDrew)))))
              case eff1 =>
                intro o ho
                obtain rfl := Option.some.inj (show some _ = some o from ho)
                intro v1 v2 W h; have HST := Lib.hid h; obtain ⟨g0, g1, g2, g3, g4⟩ := h.cell; obtain ⟨f0, f1, f2⟩ := cv_open (h.sb _ (List.mem_cons_self ..)); obtain ⟨e0, e1, e2⟩ := cv_open (h.sb _ (List.mem_cons_of_mem _ (List.mem_cons_self ..))); have g5 := h.row HY.out; have g6 := h.row HV.out; have hlim := h.lim; intro K Q hK; simp only [updAll, Act.put, List.setIfInBounds_toArray, List.set_cons_zero, List.set_cons_succ, List.set_nil] at hK ⊢
                go_wp2_with fail
                first | exact hK _ _ h.built | exact h.built
              case eff2 =>
                intro o ho
                obtain rfl := Option.some.inj (show some _ = some o from ho)
                intro v1 v2 W h; have HST := Lib.hid h; obtain ⟨g0, g1, g2, g3, g4⟩ := h.cell; obtain ⟨f0, f1, f2⟩ := cv_open (h.sb _ (List.mem_cons_self ..)); obtain ⟨e0, e1, e2⟩ := cv_open (h.sb _ (List.mem_cons_of_mem _ (List.mem_cons_self ..))); have g5 := h.row HY.out; have g6 := h.row HV.out; have hlim := h.lim; intro K Q hK; simp only [updAll, Act.put, List.setIfInBounds_toArray, List.set_cons_zero, List.set_cons_succ, List.set_nil] at hK ⊢
                obtain ⟨g', rfl, hg'⟩ := h.blt rfl rfl
                refine wp_append_own_at _ (.tmp 53) (.tmp 74) 22 rfl B 2 j0 (.int .i64 0) 1 8 Try.underlying22 hj hy0 hy1 hy2 rfl (by decide) _ _ _ rfl (h.own rfl) ⟨g', 0, none⟩ 1 1 [.int .i64 _] rfl rfl (one_cellI hg') (one_one _) (by have := hln.out; unfold maxLen; omega) (by have := hln.out; omega) (by have := h.lim; omega) ?_
                intro v' w' hown' hgrow hat
                first | exact hK _ _ (h.added hown' hgrow hat) | exact h.added hown' hgrow hat
              case tail =>
                intro v1 v2 W h; have HST := Lib.hid h; obtain ⟨g0, g1, g2, g3, g4⟩ := h.cell; obtain ⟨f0, f1, f2⟩ := cv_open (h.sb _ (List.mem_cons_self ..)); obtain ⟨e0, e1, e2⟩ := cv_open (h.sb _ (List.mem_cons_of_mem _ (List.mem_cons_self ..))); have g5 := h.row HY.out; have g6 := h.row HV.out; have hlim := h.lim
                refine wpOp_plain rfl rfl ?_
                simp only [updAll, Act.put, List.setIfInBounds_toArray, List.set_cons_zero, List.set_cons_succ, List.set_nil]
                obtain ⟨gv, cv, rfl, -, -⟩ := (h.app rfl).1.blk (by simp)
                go_wp2_with fail
                go_roundw
                case rel => exact ⟨j + 1, _, by omega, by push_cast; rfl, by unfold Hid; rw [HT.out]; (have q := YQ.fin h); simp only [List.length_append, List.length_singleton] at q; exact q⟩
                case measure => (simp [intOf]; omega)
            · have hT : (blendRow ys vs n k).take j = blendRow ys vs n k := List.take_of_length_le (by omega)
              rw [hT] at P0
              have hle : ¬ (j : Int) < xs.length := by omega
              have hR := HRes.out
              generalize blendRow ys vs n k = RY at *
              subst hR
              obtain ⟨a2, d2, rfl, -⟩ := P0.out.oy.row
              clear HQ FY FV HRes HDN
              go_wp2_with fail
              have HF := P0.out
              have hB' := HF.hB
              exact bodyPost_ret (v := .tuple #[.agg #[.slice (some ⟨g, 0, none⟩) xs.length cx, .slice a2 RY.length d2], .int .i64 0]) (by simp only [results, Try.results11]; go_simp) rfl ⟨_, _, rfl, ⟨⟨_, _, rfl, HXo.out _ (blk_set_other (blk_set_other (HF.sb _ (List.mem_cons_of_mem _ (List.mem_cons_of_mem _ (List.mem_cons_self ..)))) (by show g ≠ R; exact (HF.hL _ (List.mem_cons_of_mem _ (List.mem_cons_of_mem _ (List.mem_cons_self ..)))).2.1)) (by show g ≠ R; exact (HF.hL _ (List.mem_cons_of_mem _ (List.mem_cons_of_mem _ (List.mem_cons_self ..)))).2.1))⟩, IntOwn.row (own_keep (own_keep HF.oy (by omega)) (by omega))⟩, bSet (bSet HF.bel (by show w.heap.size ≤ R; omega) _) (by show w.heap.size ≤ R; omega) _⟩
      · have q2 : isDen k = false ∨ (isDen k = true ∧ n < 0) ∨ (isDen k = true ∧ 0 ≤ n ∧ k < n) := by
          cases hk : isDen k
          · exact Or.inl rfl
          · rw [hk] at h2
            have h9 : ¬ (0 ≤ n ∧ n ≤ k) := fun h => h2 ⟨rfl, h⟩
            rcases Int.lt_or_le n 0 with h8 | h8
            · exact Or.inr (Or.inl ⟨rfl, h8⟩)
            · exact Or.inr (Or.inr ⟨rfl, h8, by omega⟩)
        rw [if_pos h2] at hb
        rw [hb]
        clear hb h2 HL HQ hne hne2 hne3 l2
        have BX := Lib.hid (three_boxes (w := w) (o1 := .cells #[.slice pa xs.length ca, .slice pb xs.length cb] 24) (o2 := .cells #[.slice pc xs.length cc, .slice pd xs.length cd] 24) (o3 := .cells #[.slice none 0 0, .slice none 0 0] 24))
        rcases q2 with q2 | ⟨q2, q3⟩ | ⟨q2, q3, q4⟩
        all_goals
          go_enter Try.func11, Try.ntmps11
          go_wp2_with (first | (go_at_call 47; refine (CV.out _ (HA.out.step (by repeat' (first | exact Below.refl _ _ | assumption | apply bDrewN | apply bDrew | apply bAlloc | (refine bSet ?_ ?_ _) | (refine bStep ?_ (by assumption)) | omega | (simp <;> omega)))) (HB.out.step (by repeat' (first | exact Below.refl _ _ | assumption | apply bDrewN | apply bDrew | apply bAlloc | (refine bSet ?_ ?_ _) | (refine bStep ?_ (by assumption)) | omega | (simp <;> omega)))) (HC.out.step (by repeat' (first | exact Below.refl _ _ | assumption | apply bDrewN | apply bDrew | apply bAlloc | (refine bSet ?_ ?_ _) | (refine bStep ?_ (by assumption)) | omega | (simp <;> omega)))) (HD.out.step (by repeat' (first | exact Below.refl _ _ | assumption | apply bDrewN | apply bDrew | apply bAlloc | (refine bSet ?_ ?_ _) | (refine bStep ?_ (by assumption)) | omega | (simp <;> omega))))).mono ?_; rintro e w1 ⟨rfl, hb1⟩; obtain ⟨BX1, BX2, BX3⟩ := BX.out; replace BX := Lib.hid (And.intro (blk_step BX1 hb1) (And.intro (blk_step BX2 hb1) (blk_step BX3 hb1))); clear BX1 BX2 BX3; obtain ⟨c0, c1, k0⟩ := cv_open BX.out.1; obtain ⟨c2, c3, k1⟩ := cv_open BX.out.2.1; obtain ⟨c4, c5, f4, f5, k2⟩ := cv_openF BX.out.2.2) | (go_at_call 43; refine (CS.out _ (HA.out.step (by repeat' (first | exact Below.refl _ _ | assumption | apply bDrewN | apply bDrew | apply bAlloc | (refine bSet ?_ ?_ _) | (refine bStep ?_ (by assumption)) | omega | (simp <;> omega)))) (HC.out.step (by repeat' (first | exact Below.refl _ _ | assumption | apply bDrewN | apply bDrew | apply bAlloc | (refine bSet ?_ ?_ _) | (refine bStep ?_ (by assumption)) | omega | (simp <;> omega))))).mono ?_; rintro e w2 ⟨rfl, hb2⟩; obtain ⟨BX1, BX2, BX3⟩ := BX.out; replace BX := Lib.hid (And.intro (blk_step BX1 hb2) (And.intro (blk_step BX2 hb2) (blk_step BX3 hb2))); clear BX1 BX2 BX3; obtain ⟨c0, c1, k0⟩ := cv_open BX.out.1; obtain ⟨c2, c3, k1⟩ := cv_open BX.out.2.1; obtain ⟨c4, c5, f4, f5, k2⟩ := cv_openF BX.out.2.2) | (go_at_call 48; refine (den_any _ _).mono ?_; rintro e w' ⟨rfl, rfl⟩))
          exact bodyPost_ret (v := .tuple #[.agg #[.slice none 0 0, .slice none 0 0], .int .i64 2]) (by simp only [results, Try.results11]; go_simp) rfl ⟨_, _, rfl, HNIL.out _, (by repeat' (first | exact Below.refl _ _ | assumption | apply bDrewN | apply bDrew | apply bAlloc | (refine bSet ?_ ?_ _) | (refine bStep ?_ (by assumption)) | omega | (simp <;> omega)))⟩
    · have q1 : decide (xs = us) = false := by simp [h1]
      rw [q1] at CS
      rw [if_pos h1] at hb
      rw [hb]
      clear hb q1 h1 l1 l2 l3 l4 m1 m2 m3 m4
      have BX := Lib.hid (three_boxes (w := w) (o1 := .cells #[.slice pa xs.length ca, .slice pb ys.length cb] 24) (o2 := .cells #[.slice pc us.length cc, .slice pd vs.length cd] 24) (o3 := .cells #[.slice none 0 0, .slice none 0 0] 24))
      go_enter Try.func11, Try.ntmps11
      go_wp2_with (first | (go_at_call 47; refine (CV.out _ (HA.out.step (by repeat' (first | exact Below.refl _ _ | assumption | apply bDrewN | apply bDrew | apply bAlloc | (refine bSet ?_ ?_ _) | (refine bStep ?_ (by assumption)) | omega | (simp <;> omega)))) (HB.out.step (by repeat' (first | exact Below.refl _ _ | assumption | apply bDrewN | apply bDrew | apply bAlloc | (refine bSet ?_ ?_ _) | (refine bStep ?_ (by assumption)) | omega | (simp <;> omega)))) (HC.out.step (by repeat' (first | exact Below.refl _ _ | assumption | apply bDrewN | apply bDrew | apply bAlloc | (refine bSet ?_ ?_ _) | (refine bStep ?_ (by assumption)) | omega | (simp <;> omega)))) (HD.out.step (by repeat' (first | exact Below.refl _ _ | assumption | apply bDrewN | apply bDrew | apply bAlloc | (refine bSet ?_ ?_ _) | (refine bStep ?_ (by assumption)) | omega | (simp <;> omega))))).mono ?_; rintro e w1 ⟨rfl, hb1⟩; obtain ⟨BX1, BX2, BX3⟩ := BX.out; replace BX := Lib.hid (And.intro (blk_step BX1 hb1) (And.intro (blk_step BX2 hb1) (blk_step BX3 hb1))); clear BX1 BX2 BX3; obtain ⟨c0, c1, k0⟩ := cv_open BX.out.1; obtain ⟨c2, c3, k1⟩ := cv_open BX.out.2.1; obtain ⟨c4, c5, f4, f5, k2⟩ := cv_openF BX.out.2.2) | (go_at_call 43; refine (CS.out _ (HA.out.step (by repeat' (first | exact Below.refl _ _ | assumption | apply bDrewN | apply bDrew | apply bAlloc | (refine bSet ?_ ?_ _) | (refine bStep ?_ (by assumption)) | omega | (simp <;> omega)))) (HC.out.step (by repeat' (first | exact Below.refl _ _ | assumption | apply bDrewN | apply bDrew | apply bAlloc | (refine bSet ?_ ?_ _) | (refine bStep ?_ (by assumption)) | omega | (simp <;> omega))))).mono ?_; rintro e w2 ⟨rfl, hb2⟩; obtain ⟨BX1, BX2, BX3⟩ := BX.out; replace BX := Lib.hid (And.intro (blk_step BX1 hb2) (And.intro (blk_step BX2 hb2) (blk_step BX3 hb2))); clear BX1 BX2 BX3; obtain ⟨c0, c1, k0⟩ := cv_open BX.out.1; obtain ⟨c2, c3, k1⟩ := cv_open BX.out.2.1; obtain ⟨c4, c5, f4, f5, k2⟩ := cv_openF BX.out.2.2) | (go_at_call 48; refine (den_any _ _).mono ?_; rintro e w' ⟨rfl, rfl⟩))
      exact bodyPost_ret (v := .tuple #[.agg #[.slice none 0 0, .slice none 0 0], .int .i64 20]) (by simp only [results, Try.results11]; go_simp) rfl ⟨_, _, rfl, HNIL.out _, (by repeat' (first | exact Below.refl _ _ | assumption | apply bDrewN | apply bDrew | apply bAlloc | (refine bSet ?_ ?_ _) | (refine bStep ?_ (by assumption)) | omega | (simp <;> omega)))⟩
  · have hb : blendS xs ys us vs n k = (([], []), curvesS xs ys us vs) := by unfold blendS; rw [if_pos h0]
    rw [hb]
    generalize curvesS xs ys us vs = e0 at *
    clear hb hx hy hu hv CS
    have BX := Lib.hid (three_boxes (w := w) (o1 := .cells #[.slice pa xs.length ca, .slice pb ys.length cb] 24) (o2 := .cells #[.slice pc us.length cc, .slice pd vs.length cd] 24) (o3 := .cells #[.slice none 0 0, .slice none 0 0] 24))
    go_enter Try.func11, Try.ntmps11
    go_wp2_with (first | (go_at_call 47; refine (CV.out _ (HA.out.step (by repeat' (first | exact Below.refl _ _ | assumption | apply bDrewN | apply bDrew | apply bAlloc | (refine bSet ?_ ?_ _) | (refine bStep ?_ (by assumption)) | omega | (simp <;> omega)))) (HB.out.step (by repeat' (first | exact Below.refl _ _ | assumption | apply bDrewN | apply bDrew | apply bAlloc | (refine bSet ?_ ?_ _) | (refine bStep ?_ (by assumption)) | omega | (simp <;> omega)))) (HC.out.step (by repeat' (first | exact Below.refl _ _ | assumption | apply bDrewN | apply bDrew | apply bAlloc | (refine bSet ?_ ?_ _) | (refine bStep ?_ (by assumption)) | omega | (simp <;> omega)))) (HD.out.step (by repeat' (first | exact Below.refl _ _ | assumption | apply bDrewN | apply bDrew | apply bAlloc | (refine bSet ?_ ?_ _) | (refine bStep ?_ (by assumption)) | omega | (simp <;> omega))))).mono ?_; rintro e w1 ⟨rfl, hb1⟩; obtain ⟨BX1, BX2, BX3⟩ := BX.out; replace BX := Lib.hid (And.intro (blk_step BX1 hb1) (And.intro (blk_step BX2 hb1) (blk_step BX3 hb1))); clear BX1 BX2 BX3; obtain ⟨c0, c1, k0⟩ := cv_open BX.out.1; obtain ⟨c2, c3, k1⟩ := cv_open BX.out.2.1; obtain ⟨c4, c5, f4, f5, k2⟩ := cv_openF BX.out.2.2))
    exact bodyPost_ret (v := .tuple #[.agg #[.slice none 0 0, .slice none 0 0], .int .i64 e0]) (by simp only [results, Try.results11]; go_simp) rfl ⟨_, _, rfl, HNIL.out _, (by repeat' (first | exact Below.refl _ _ | assumption | apply bDrewN | apply bDrew | apply bAlloc | (refine bSet ?_ ?_ _) | (refine bStep ?_ (by assumption)) | omega | (simp <;> omega)))⟩

end Go.Proofs.Ytkldlmbccdfjdaa
