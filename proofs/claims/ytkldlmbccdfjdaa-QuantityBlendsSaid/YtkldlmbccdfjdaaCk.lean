/-
  The walk of CheckCurve: the loop over the pieces.
-/
import Derived.Test.YtkldlmbccdfjdaaCc
set_option linter.unusedSimpArgs false
set_option linter.unusedVariables false
namespace Go.Proofs.Ytkldlmbccdfjdaa
open Go.RowKit Go.Shelf
attribute [local go_sem] Oper.semAt_some

set_option maxRecDepth 100000 in
set_option maxHeartbeats 4000000 in
theorem CheckCurve_pre (bu ou cu bv ov cv : Nat) (xs ys : List Int) (w : World) (hx : xs.length ≤ 64) (hpre : preC xs ys) (hA : IntAt (some ⟨bu, ou, none⟩) xs w) (hB : IntAt (some ⟨bv, ov, none⟩) ys w) :
    CallsIn Fence.wide 5 Try.prog 12 #[.agg #[.slice (some ⟨bu, ou, none⟩) xs.length cu, .slice (some ⟨bv, ov, none⟩) xs.length cv]] w fun e w' => e = .returned (.int .i64 (checkC xs ys)) ∧ Below w.heap.size w w' := by
  obtain ⟨p1, p2, p3, p4⟩ := hpre
  have hne : xs ≠ [] := fun e => by rw [e] at p2; simp at p2
  have hne2 : ys ≠ [] := fun e => by rw [e] at p1; rw [p1] at p2; simp at p2
  obtain ⟨_, _, e1, hbu, hcx⟩ := hA hne
  cases e1
  obtain ⟨_, _, e2, hbv, hcy⟩ := hB hne2
  cases e2
  have hq : ∀ k, -1099511627776 ≤ xs.getD k 0 ∧ xs.getD k 0 ≤ 1099511627776 ∧ -1099511627776 ≤ ys.getD k 0 ∧ ys.getD k 0 ≤ 1099511627776 := fun k => ⟨(allQ_getD p3 k).1, (allQ_getD p3 k).2, (allQ_getD p4 k).1, (allQ_getD p4 k).2⟩
  have C1 := Lib.hid (fun w h => containsFunc_ints xs (some ⟨bu, ou, none⟩) cu w (by omega) h)
  have C2 := Lib.hid (fun w h => containsFunc_ints ys (some ⟨bv, ov, none⟩) cv w (by omega) h)
  rw [← p1] at C2 hcy
  rw [p3] at C1
  rw [p4] at C2
  have hck : Hid ((checkC xs ys = 0 ↔ ∀ k, k < xs.length - 1 → rising xs ys k) ∧ ((∃ k, k < xs.length - 1 ∧ ¬ rising xs ys k) → checkC xs ys = 2)) := by
    unfold checkC
    rw [if_neg (by omega)]
    constructor
    · constructor
      · intro h
        split at h
        · rename_i hg; exact hg.2
        · exact absurd h (by decide)
      · intro h
        rw [if_pos ⟨⟨p1, p2, p3, p4⟩, h⟩]
    · rintro ⟨k, hk, hr⟩
      rw [if_neg (fun hg => hr (hg.2 k hk))]
  generalize checkC xs ys = r at *
  have HA := Lib.hid hA
  have HB := Lib.hid hB
  have HQ := Lib.hid hq
  have HCX := Lib.hid hcx
  have HCY := Lib.hid hcy
  clear hA hB hq hcx hcy
  have e1 : (if xs.length < xs.length then (xs.length : Int) else (xs.length : Int)) = xs.length := by simp
  have hx' : (xs.length : Int) ≤ 64 := by omega
  have p2' : 2 ≤ (xs.length : Int) := by omega
  clear p1 p3 p4
  refine callsIn_of_wp_marks Try.func12 rfl trivial ?_ rfl
  simp only [Try.ntmps12, List.size_toArray, List.length_cons, List.length_nil, Nat.reduceAdd, Nat.reduceSub, Array.replicate_succ, Array.replicate_zero, List.push_toArray, List.append_toArray, List.nil_append, List.cons_append]
  have kA := HA.out.step ((bAl' (o := .cells #[.slice (some ⟨bu, ou, none⟩) xs.length cu, .slice (some ⟨bv, ov, none⟩) xs.length cv] 24) (W := w)))
  gi_wp2_with (first | (refine ⟨trivial, ?_⟩; gi_at_call 51; refine (callsIn_wide.2 (C1.out _ (HA.out.step (by repeat' (first | exact Below.refl _ _ | assumption | apply bDrewN | apply bDrew | apply bAlloc | (refine bSet ?_ ?_ _) | (refine bStep ?_ (by assumption)) | omega | (simp <;> omega)))))).mono ?_; rintro e w' ⟨rfl, rfl⟩) | (refine ⟨trivial, ?_⟩; gi_at_call 51; refine (callsIn_wide.2 (C2.out _ (HB.out.step (by repeat' (first | exact Below.refl _ _ | assumption | apply bDrewN | apply bDrew | apply bAlloc | (refine bSet ?_ ?_ _) | (refine bStep ?_ (by assumption)) | omega | (simp <;> omega)))))).mono ?_; rintro e w' ⟨rfl, rfl⟩) | (refine ⟨trivial, ?_⟩; gi_at_call 52; refine (pieces_in Fence.wide _ trivial rfl _ _ _ rfl rfl).mono ?_; rintro e w' ⟨rfl, rfl⟩))
  have kW : Below w.heap.size w (((w.alloc (Obj.cells #[(.slice (some ⟨bu, ou, none⟩) xs.length cu), (.slice (some ⟨bv, ov, none⟩) xs.length cv)] 24)).alloc (Obj.cells #[.int .i64 0] 26)).alloc (Obj.cells #[(.slice (some ⟨bu, ou, none⟩) xs.length cu), (.slice (some ⟨bv, ov, none⟩) xs.length cv)] 24)) := (by repeat' (first | exact Below.refl _ _ | assumption | apply bDrewN | apply bDrew | apply bAlloc | (refine bSet ?_ ?_ _) | (refine bStep ?_ (by assumption)) | omega | (simp <;> omega)))
  refine wpIn_rangeFunc_ownH rfl (by omega) (gf := 83) (lb := #[.pointer (some ⟨w.heap.size + 1 + 1, 0, none⟩)]) rfl trivial (enters_of Try.func83 (by kernel_rfl) rfl)
    (pieces_stops Fence.wide (5 - 1) trivial rfl (by omega) (w.heap.size + 1 + 1) (w.heap.size + 3) bu ou cu bv ov cv xs.length xs ys p2 (by omega) (by omega) (by omega) (by omega) HQ.out (((w.alloc (Obj.cells #[(.slice (some ⟨bu, ou, none⟩) xs.length cu), (.slice (some ⟨bv, ov, none⟩) xs.length cv)] 24)).alloc (Obj.cells #[.int .i64 0] 26)).alloc (Obj.cells #[(.slice (some ⟨bu, ou, none⟩) xs.length cu), (.slice (some ⟨bv, ov, none⟩) xs.length cv)] 24)) (by simp) (by go_simp) (by go_simp) (fun k hk => (kW.cell (p := ⟨bu, ou + k, none⟩) hbu).trans (HCX.out k hk)) (fun k hk => (kW.cell (p := ⟨bv, ov + k, none⟩) hbv).trans (HCY.out k hk)))
    belowK_t (belowK_b (by simp)) (Below.refl _ _) (fun _ => rfl)
    (fun pre W => ((∀ k ∈ pre, rising xs ys k) ∧ W.cell? ⟨w.heap.size + 1, 0, none⟩ = some (.int .i64 0) ∧ W.frozen? ⟨w.heap.size + 1, 0, none⟩ = false ∧ W.cell? ⟨w.heap.size + 1 + 1, 0, none⟩ = some (.slice (some ⟨bu, ou, none⟩) xs.length cu)) ∧ Below w.heap.size w W)
    (fun c pre W => (c = .ret ∧ (∃ k ∈ pre, ¬ rising xs ys k) ∧ W.cell? ⟨w.heap.size + 1, 0, none⟩ = some (.int .i64 2)) ∧ Below w.heap.size w W)
    (OwnFrom.and (Own.from (fun s A B row hs hg hr => ⟨hs.1, cell_kept hs.2.1 hg hr, (frozen_kept hs.2.1 hg hr).trans hs.2.2.1, cell_kept hs.2.2.2 hg hr⟩) _) (ownFrom_below (Nat.le_refl _) (by simp; omega)))
    (fun c => OwnFrom.and (Own.from (fun s A B row hs hg hr => ⟨hs.1, hs.2.1, cell_kept hs.2.2 hg hr⟩) _) (ownFrom_below (Nat.le_refl _) (by simp; omega)))
    ⟨⟨by simp, by go_simp, by go_simp, by go_simp⟩, kW⟩
    (fun k a' W => ∃ Bx, w.heap.size + 2 < Bx ∧ W.cell? ⟨Bx, 2, none⟩ = some (.int .i64 (xs.getD (k + 1) 0 - xs.getD k 0)) ∧ W.cell? ⟨Bx, 3, none⟩ = some (.int .i64 (ys.getD (k + 1) 0 - ys.getD k 0)) ∧ a' = { tmps := #[(.agg #[(.slice (some ⟨bu, ou, none⟩) xs.length cu), (.slice (some ⟨bv, ov, none⟩) xs.length cv)]), (.pointer (some ⟨w.heap.size, 0, none⟩)), (.pointer (some ⟨w.heap.size + 1, 0, none⟩)), (.func (.func 50) #[] #[]), undef, (.pointer (some ⟨Bx, 0, none⟩)), (.pointer (some ⟨w.heap.size, 0, none⟩)), (.slice (some ⟨bu, ou, none⟩) xs.length cu), (.int .i64 xs.length), (.pointer (some ⟨w.heap.size, 1, none⟩)), (.slice (some ⟨bv, ov, none⟩) xs.length cv), (.int .i64 xs.length), (.int .i64 xs.length), (.bool (decide (64 < (xs.length : Int)))), (.pointer (some ⟨w.heap.size, 0, none⟩)), (.slice (some ⟨bu, ou, none⟩) xs.length cu), (.int .i64 xs.length), (.pointer (some ⟨w.heap.size, 1, none⟩)), (.slice (some ⟨bv, ov, none⟩) xs.length cv), (.int .i64 xs.length), (.bool false), (.bool false), (.pointer (some ⟨w.heap.size, 0, none⟩)), (.slice (some ⟨bu, ou, none⟩) xs.length cu), (.int .i64 xs.length), (.bool (decide ((xs.length : Int) < 2))), (.bool (decide ((xs.length : Int) < 2))), (.bool (decide ((xs.length : Int) < 2))), (.pointer (some ⟨w.heap.size, 0, none⟩)), (.slice (some ⟨bu, ou, none⟩) xs.length cu), (.func (.func 50) #[] #[]), (.bool false), (.bool (decide ((xs.length : Int) < 2))), (.bool (decide ((xs.length : Int) < 2))), (.pointer (some ⟨w.heap.size, 1, none⟩)), (.slice (some ⟨bv, ov, none⟩) xs.length cv), (.func (.func 50) #[] #[]), (.bool false), (.bool (decide ((xs.length : Int) < 2))), (.agg #[(.slice (some ⟨bu, ou, none⟩) xs.length cu), (.slice (some ⟨bv, ov, none⟩) xs.length cv)]), (.func (.func 83) #[] #[.pointer (some ⟨w.heap.size + 1 + 1, 0, none⟩)]), (.int .i64 k), (.agg #[.int .i64 (xs.getD k 0), .int .i64 (ys.getD k 0), .int .i64 (xs.getD (k + 1) 0 - xs.getD k 0), .int .i64 (ys.getD (k + 1) 0 - ys.getD k 0)]), undef, undef, undef, undef, undef, undef, undef, undef], defers := [] })
    (fun k a' _ A B row hs hg hr => by obtain ⟨Bx, h1, h2, h3, h4⟩ := hs; exact ⟨Bx, h1, cell_kept h2 hg (fun r e => (hr r e).2), cell_kept h3 hg (fun r e => (hr r e).2), h4⟩) ?assign ?body ?done ?stop
  case assign =>
    rintro l pre k W K ⟨⟨i1, i2, i3, i5⟩, i4⟩ hK
    have hs : w.heap.size + 1 + 1 < W.heap.size := cell_lt i5
    dsimp only [pcs]
    gi_wp2
    exact hK _ _ ((KeepsOthers.alloc _ _).from _) ((Below.refl _ W).alloc (by omega) _) ⟨⟨i1, cell_step i2 bAl', free_step i2 i3 bAl', cell_step i5 bAl'⟩, i4.alloc (by omega) _⟩ ⟨W.heap.size, by omega, by go_simp, by go_simp, rfl⟩
  case body =>
    rintro l pre k a' W hl ⟨r', hr'⟩ ⟨⟨i1, i2, i3, i5⟩, i4⟩ ⟨Bx, hBx, c2, c3, rfl⟩ hlt
    have hs : w.heap.size + 1 + 1 < W.heap.size := cell_lt i5
    obtain ⟨q1, q2, q3, q4⟩ := HQ.out k
    obtain ⟨q5, q6, q7, q8⟩ := HQ.out (k + 1)
    by_cases hr : rising xs ys k
    · have hd1 : 0 < xs.getD (k + 1) 0 - xs.getD k 0 := by have := hr.1; omega
      have hd2 : 0 ≤ ys.getD (k + 1) 0 - ys.getD k 0 := by have := hr.2; omega
      have hI : ∀ j ∈ pre ++ [k], rising xs ys j := by
        intro j hj
        rcases List.mem_append.1 hj with hj | hj
        · exact i1 j hj
        · simp at hj; rw [hj]; exact hr
      generalize xs.getD (k + 1) 0 - xs.getD k 0 = dx at *
      generalize ys.getD (k + 1) 0 - ys.getD k 0 = dy at *
      generalize xs.getD k 0 = X at *
      generalize ys.getD k 0 = Y at *
      clear hr q5 q6 q7 q8
      gi_wp2
      exact ⟨(KeepsOthers.refl _).from _, Below.refl _ _, ⟨hI, i2, i3, i5⟩, i4⟩
    · have hI : ∃ j ∈ pre ++ [k], ¬ rising xs ys j := ⟨k, by simp, hr⟩
      have hd : xs.getD (k + 1) 0 - xs.getD k 0 ≤ 0 ∨ (0 < xs.getD (k + 1) 0 - xs.getD k 0 ∧ ys.getD (k + 1) 0 - ys.getD k 0 < 0) := by
        unfold rising at hr; omega
      generalize xs.getD (k + 1) 0 - xs.getD k 0 = dx at *
      generalize ys.getD (k + 1) 0 - ys.getD k 0 = dy at *
      generalize xs.getD k 0 = X at *
      generalize ys.getD k 0 = Y at *
      clear hr q5 q6 q7 q8
      rcases hd with hd | ⟨hd, hd2⟩
      all_goals
        gi_wp2
        exact ⟨(KeepsOthers.setCell _ _ _).from _, ⟨rfl, hI, World.cell?_setCell_same' _ _ _ (by rw [i2]; rfl)⟩, i4.setCell (p := ⟨w.heap.size + 1, 0, none⟩) (by simp) _⟩
  case done =>
    rintro D zs W hD rfl ⟨⟨hall, hcr, hfr, -⟩, hB⟩ hK
    obtain rfl : r = 0 := hck.out.1.2 (fun k hk => hall k (List.mem_range.2 hk))
    gi_wp2
    have hK' := (KeepsOthers.setCell W ⟨w.heap.size + 1, 0, none⟩ (.int .i64 0)).same D _ hK rfl
    refine ⟨by simp, .inl ⟨_, _, rfl, run_takeDeferred hK', ?_⟩⟩
    have hc5 := cell_kept (World.cell?_setCell_same' W ⟨w.heap.size + 1, 0, none⟩ (.int .i64 0) (by rw [hcr]; rfl)) (grownBy_putObj' _ D (.deferred none)) (fun r e => by cases e; exact ⟨_, hK', rfl⟩)
    refine ⟨.int .i64 0, ?_, rfl, (hB.setCell (p := ⟨w.heap.size + 1, 0, none⟩) (by simp) _).trans (belowK_b (w := w) (Nat.le_refl _) _ D _ _ (by simp at hD; omega) hK' rfl rfl)⟩
    simp [results, Try.f12, go_sem, hc5]
  case stop =>
    rintro D c pre W hD ⟨k', hk', rfl⟩ ⟨⟨rfl, ⟨k, hk, hnr⟩, hcr⟩, hB⟩ hK
    obtain rfl : r = 2 := hck.out.2 ⟨k, by have := List.mem_range.1 hk; omega, hnr⟩
    gi_wp2
    refine ⟨by simp, .inl ⟨_, _, rfl, run_takeDeferred hK, ?_⟩⟩
    have hc5 := cell_kept hcr (grownBy_putObj' _ D (.deferred none)) (fun r e => by cases e; exact ⟨_, hK, rfl⟩)
    refine ⟨.int .i64 2, ?_, rfl, hB.trans (belowK_b (w := w) (Nat.le_refl _) W D _ _ (by simp at hD; omega) hK rfl rfl)⟩
    simp [results, Try.f12, go_sem, hc5]


end Go.Proofs.Ytkldlmbccdfjdaa
