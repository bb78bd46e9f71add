/-
  The walk of CheckCurve.
-/
import Derived.Test.YtngnehlmbipabaaG8Backs
import Derived.Test.YtngnehlmbipabaaG9Backs
set_option linter.unusedSimpArgs false
set_option linter.unusedVariables false
namespace Go.Proofs.Ytngnehlmbipabaa
open Go.RowKit Go.Shelf

theorem strange_any (x : Int) (w : World) : Calls Try.prog 50 #[.int .i64 x] w fun e w' => e = .returned (.bool (!isQ x)) ∧ w = w' := by
  have C := Lib.hid (fun w => is_any x w)
  generalize isQ x = r at *
  go_enter Try.func50, Try.ntmps50
  go_wp2_with (go_at_call 39; refine (C.out _).mono ?_; rintro e w' ⟨rfl, rfl⟩)
  go_ret
  exact ⟨rfl, rfl⟩

set_option maxHeartbeats 400000 in
theorem indexFunc_ints (xs : List Int) (a : Option Addr) (c : Nat) (w : World) (hl : xs.length ≤ 1000000) (hA : IntAt a xs w) :
    Calls Try.prog 82 #[.slice a xs.length c, .func (.func 50) #[] #[]] w fun e w' => (∃ r : Int, e = .returned (.int .i64 r) ∧ (decide (0 ≤ r) = !(xs.all isQ))) ∧ w = w' := by
  have HA := Lib.hid hA
  clear hA
  go_enter Try.func82, Try.ntmps82
  go_wp2
  go_loopw [8] (fun i wr => ∃ k : Nat, k ≤ xs.length ∧ i = .int .i64 k ∧ wr = w ∧ Hid ((xs.take k).all isQ = true)) (fun i _ => xs.length - (intOf i).toNat)
  case atStart => exact ⟨0, by omega, rfl, rfl, by simp [Hid]⟩
  case round =>
    obtain ⟨k, hk, rfl, rfl, HQ⟩ := hrel
    by_cases hlt : k < xs.length
    · obtain ⟨b, off, rfl, g1⟩ := HA.out.at_ hlt
      have HS : Hid (isQ xs[k] = true → (xs.take (k + 1)).all isQ = true) := by
        intro h
        rw [List.take_succ_eq_append_getElem hlt, List.all_append, HQ.out]
        simp [h]
      have HN : Hid (isQ xs[k] = false → xs.all isQ = false) := by
        intro h
        rw [List.all_eq_false]
        exact ⟨xs[k], List.getElem_mem _, by simp [h]⟩
      have C := Lib.hid (fun w => strange_any xs[k] w)
      generalize isQ xs[k] = q at *
      generalize xs[k] = x at *
      clear HQ HA
      cases q
      all_goals
        go_wp2_with (go_at_call 50; refine (C.out _).mono ?_; rintro e w' ⟨rfl, rfl⟩)
      · go_ret
        exact ⟨⟨k, rfl, by rw [HN.out (by first | rfl | trivial)]; simp⟩, by first | rfl | trivial⟩
      · go_roundw
        case rel => exact ⟨k + 1, by omega, by go_num, by first | rfl | trivial, HS.out (by first | rfl | trivial)⟩
        case measure => (simp [intOf]; omega)
    · go_wp2
      go_ret
      obtain rfl : k = xs.length := by omega
      have := HQ.out
      rw [List.take_length] at this
      exact ⟨⟨-1, rfl, by simp [this]⟩, rfl⟩

set_option maxHeartbeats 400000 in
theorem containsFunc_ints (xs : List Int) (a : Option Addr) (c : Nat) (w : World) (hl : xs.length ≤ 1000000) (hA : IntAt a xs w) :
    Calls Try.prog 51 #[.slice a xs.length c, .func (.func 50) #[] #[]] w fun e w' => e = .returned (.bool (!(xs.all isQ))) ∧ w = w' := by
  have H := Lib.hid (fun w hA => indexFunc_ints xs a c w hl hA)
  have HA := Lib.hid hA
  clear hA
  go_enter Try.func51, Try.ntmps51
  go_wp2_with (go_at_call 82; refine (H.out _ HA.out).mono ?_; rintro e w' ⟨⟨r, rfl, hr⟩, rfl⟩)
  go_ret
  exact ⟨by simp [hr], rfl⟩

/-- What CheckCurve returns. -/
def preC (xs ys : List Int) : Prop := xs.length = ys.length ∧ 2 ≤ xs.length ∧ xs.all isQ = true ∧ ys.all isQ = true
def rising (xs ys : List Int) (k : Nat) : Prop := xs.getD k 0 < xs.getD (k + 1) 0 ∧ ys.getD k 0 ≤ ys.getD (k + 1) 0
instance (xs ys : List Int) : Decidable (preC xs ys) := by unfold preC; infer_instance
instance (xs ys : List Int) (k : Nat) : Decidable (rising xs ys k) := by unfold rising; infer_instance
def goodC (xs ys : List Int) : Prop := preC xs ys ∧ ∀ k, k < xs.length - 1 → rising xs ys k
instance (xs ys : List Int) : Decidable (goodC xs ys) := by unfold goodC; infer_instance
def checkC (xs ys : List Int) : Int := if 64 < max xs.length ys.length then 6 else if goodC xs ys then 0 else 2
theorem allQ_getD {xs : List Int} (h : xs.all isQ = true) (k : Nat) : -1099511627776 ≤ xs.getD k 0 ∧ xs.getD k 0 ≤ 1099511627776 := by
  rw [List.getD_eq_getElem?_getD]
  cases hx : xs[k]? with
  | none => simp
  | some x =>
    have := (List.all_eq_true.1 h) x (List.mem_of_getElem? hx)
    simpa using (isQ_iff x).1 this

/-- pieces: the curve is boxed, and the iterator holds on to the box. -/
theorem pieces_in (F : Fence) (n : Nat) (hf : F.fn 52) (hro : F.round = none) (sx sy : Value) (w : World) (h1 : sx.cells.size = 1) (h2 : sy.cells.size = 1) :
    CallsIn F n Try.prog 52 #[.agg #[sx, sy]] w fun e w' => e = .returned (.func (.func 83) #[] #[.pointer (some ⟨w.heap.size, 0, none⟩)]) ∧ w' = w.alloc (.cells #[sx, sy] 24) := by
  refine callsIn_of_wp Try.func52 rfl hf ?_ hro
  simp only [Try.ntmps52, List.size_toArray, List.length_cons, List.length_nil, Nat.reduceAdd, Nat.reduceSub, Array.replicate_succ, Array.replicate_zero, List.push_toArray, List.append_toArray, List.nil_append, List.cons_append]
  gi_wp2
  go_ret
  exact ⟨rfl, rfl⟩

theorem grown_drew (W : World) : W.grownBy W.drew none := ⟨rfl, rfl, rfl, Nat.le_refl _, fun _ _ _ => rfl⟩
theorem pieces_stops (F : Fence) (n : Nat) (hf : F.fn 83) (hro : F.round = none) (hn : 1 ≤ n) (Bs n₀ bu ou cu bv ov cv len : Nat) (xs ys : List Int) (h2 : 2 ≤ len) (hlen : len ≤ 1000000) (hB : Bs < n₀) (hbu : bu < n₀) (hbv : bv < n₀)
    (hq : ∀ k, -1099511627776 ≤ xs.getD k 0 ∧ xs.getD k 0 ≤ 1099511627776 ∧ -1099511627776 ≤ ys.getD k 0 ∧ ys.getD k 0 ≤ 1099511627776) (w : World) (hnw : n₀ ≤ w.heap.size)
    (hX : w.cell? ⟨Bs, 0, none⟩ = some (.slice (some ⟨bu, ou, none⟩) len cu)) (hY : w.cell? ⟨Bs, 1, none⟩ = some (.slice (some ⟨bv, ov, none⟩) len cv))
    (hcx : ∀ k, k < len → w.cell? ⟨bu, ou + k, none⟩ = some (.int .i64 (xs.getD k 0))) (hcy : ∀ k, k < len → w.cell? ⟨bv, ov + k, none⟩ = some (.int .i64 (ys.getD k 0))) :
    SeqStopsK F n Try.prog 83 #[.pointer (some ⟨Bs, 0, none⟩)] (pcs xs ys) (Below n₀) (fun l => l = List.range (len - 1)) (fun pre => ∃ k, k ≤ len - 1 ∧ pre = List.range k) (len - 1) w := fun l J Jx W hW hJ _ hYY h0 => by
  have hW0 := hW.mono hnw
  exact pieces1_in F n hf hro hn l Bs n₀ bu ou cu bv ov cv len xs ys h2 hlen hB hbu hbv hq J Jx hYY (fun pre W1 h => hJ pre W1 W1.drew none h (grown_drew W1) (fun r e => by cases e)) W
    ((hW0.cell (p := ⟨Bs, 0, none⟩) hB).trans hX) ((hW0.cell (p := ⟨Bs, 1, none⟩) hB).trans hY) (fun k hk => (hW0.cell (p := ⟨bu, ou + k, none⟩) hbu).trans (hcx k hk)) (fun k hk => (hW0.cell (p := ⟨bv, ov + k, none⟩) hbv).trans (hcy k hk)) h0

end Go.Proofs.Ytngnehlmbipabaa

/-
  The walk of CheckCurve: the loop over the pieces.
-/
set_option linter.unusedSimpArgs false
set_option linter.unusedVariables false
namespace Go.Proofs.Ytngnehlmbipabaa
open Go.RowKit Go.Shelf
attribute [local go_sem] Oper.semAt_some

set_option maxRecDepth 100000 in
set_option maxHeartbeats 4000000 in
theorem CheckCurve_pre (bu ou cu bv ov cv : Nat) (xs ys : List Int) (w : World) (hx : xs.length ≤ 64) (hpre : preC xs ys) (hA : IntAt (some ⟨bu, ou, none⟩) xs w) (hB : IntAt (some ⟨bv, ov, none⟩) ys w) :
    CallsIn Fence.wide 5 Try.prog 12 #[.agg #[.slice (some ⟨bu, ou, none⟩) xs.length cu, .slice (some ⟨bv, ov, none⟩) xs.length cv]] w fun e w' => e = .returned (.int .i64 (checkC xs ys)) ∧ Below w.heap.size w w' := by
  obtain ⟨p1, p2, p3, p4⟩ := hpre
  have hne : xs ≠ [] := fun e => by rw [e] at p2; simp at p2
  have hne2 : ys ≠ [] := fun e => by rw [e] at p1; rw [p1] at p2; simp at p2
  obtain ⟨_, _, e1, hbu, hcx⟩ := hA hne
  cases e1
  obtain ⟨_, _, e2, hbv, hcy⟩ := hB hne2
  cases e2
  have hq : ∀ k, -1099511627776 ≤ xs.getD k 0 ∧ xs.getD k 0 ≤ 1099511627776 ∧ -1099511627776 ≤ ys.getD k 0 ∧ ys.getD k 0 ≤ 1099511627776 := fun k => ⟨(allQ_getD p3 k).1, (allQ_getD p3 k).2, (allQ_getD p4 k).1, (allQ_getD p4 k).2⟩
  have C1 := Lib.hid (fun w h => containsFunc_ints xs (some ⟨bu, ou, none⟩) cu w (by omega) h)
  have C2 := Lib.hid (fun w h => containsFunc_ints ys (some ⟨bv, ov, none⟩) cv w (by omega) h)
  rw [← p1] at C2 hcy
  rw [p3] at C1
  rw [p4] at C2
  have hck : Hid ((checkC xs ys = 0 ↔ ∀ k, k < xs.length - 1 → rising xs ys k) ∧ ((∃ k, k < xs.length - 1 ∧ ¬ rising xs ys k) → checkC xs ys = 2)) := by
    unfold checkC
    rw [if_neg (by omega)]
    constructor
    · constructor
      · intro h
        split at h
        · rename_i hg; exact hg.2
        · exact absurd h (by decide)
      · intro h
        rw [if_pos ⟨⟨p1, p2, p3, p4⟩, h⟩]
    · rintro ⟨k, hk, hr⟩
      rw [if_neg (fun hg => hr (hg.2 k hk))]
  generalize checkC xs ys = r at *
  have HA := Lib.hid hA
  have HB := Lib.hid hB
  have HQ := Lib.hid hq
  have HCX := Lib.hid hcx
  have HCY := Lib.hid hcy
  clear hA hB hq hcx hcy
  have e1 : (if xs.length < xs.length then (xs.length : Int) else (xs.length : Int)) = xs.length := by simp
  have hx' : (xs.length : Int) ≤ 64 := by omega
  have p2' : 2 ≤ (xs.length : Int) := by omega
  clear p1 p3 p4
  refine callsIn_of_wp_marks Try.func12 rfl trivial ?_ rfl
  simp only [Try.ntmps12, List.size_toArray, List.length_cons, List.length_nil, Nat.reduceAdd, Nat.reduceSub, Array.replicate_succ, Array.replicate_zero, List.push_toArray, List.append_toArray, List.nil_append, List.cons_append]
  have kA := HA.out.step ((bAl' (o := .cells #[.slice (some ⟨bu, ou, none⟩) xs.length cu, .slice (some ⟨bv, ov, none⟩) xs.length cv] 24) (W := w)))
  gi_wp2_with (first | (refine ⟨trivial, ?_⟩; gi_at_call 51; refine (callsIn_wide.2 (C1.out _ (HA.out.step (by repeat' (first | exact Below.refl _ _ | assumption | apply bDrewN | apply bDrew | apply bAlloc | (refine bSet ?_ ?_ _) | (refine bStep ?_ (by assumption)) | omega | (simp <;> omega)))))).mono ?_; rintro e w' ⟨rfl, rfl⟩) | (refine ⟨trivial, ?_⟩; gi_at_call 51; refine (callsIn_wide.2 (C2.out _ (HB.out.step (by repeat' (first | exact Below.refl _ _ | assumption | apply bDrewN | apply bDrew | apply bAlloc | (refine bSet ?_ ?_ _) | (refine bStep ?_ (by assumption)) | omega | (simp <;> omega)))))).mono ?_; rintro e w' ⟨rfl, rfl⟩) | (refine ⟨trivial, ?_⟩; gi_at_call 52; refine (pieces_in Fence.wide _ trivial rfl _ _ _ rfl rfl).mono ?_; rintro e w' ⟨rfl, rfl⟩))
  have kW : Below w.heap.size w (((w.alloc (Obj.cells #[(.slice (some ⟨bu, ou, none⟩) xs.length cu), (.slice (some ⟨bv, ov, none⟩) xs.length cv)] 24)).alloc (Obj.cells #[.int .i64 0] 26)).alloc (Obj.cells #[(.slice (some ⟨bu, ou, none⟩) xs.length cu), (.slice (some ⟨bv, ov, none⟩) xs.length cv)] 24)) := (by repeat' (first | exact Below.refl _ _ | assumption | apply bDrewN | apply bDrew | apply bAlloc | (refine bSet ?_ ?_ _) | (refine bStep ?_ (by assumption)) | omega | (simp <;> omega)))
  refine wpIn_rangeFunc_ownH rfl (by omega) (gf := 83) (lb := #[.pointer (some ⟨w.heap.size + 1 + 1, 0, none⟩)]) rfl trivial (enters_of Try.func83 (by kernel_rfl) rfl)
    (pieces_stops Fence.wide (5 - 1) trivial rfl (by omega) (w.heap.size + 1 + 1) (w.heap.size + 3) bu ou cu bv ov cv xs.length xs ys p2 (by omega) (by omega) (by omega) (by omega) HQ.out (((w.alloc (Obj.cells #[(.slice (some ⟨bu, ou, none⟩) xs.length cu), (.slice (some ⟨bv, ov, none⟩) xs.length cv)] 24)).alloc (Obj.cells #[.int .i64 0] 26)).alloc (Obj.cells #[(.slice (some ⟨bu, ou, none⟩) xs.length cu), (.slice (some ⟨bv, ov, none⟩) xs.length cv)] 24)) (by simp) (by go_simp) (by go_simp) (fun k hk => (kW.cell (p := ⟨bu, ou + k, none⟩) hbu).trans (HCX.out k hk)) (fun k hk => (kW.cell (p := ⟨bv, ov + k, none⟩) hbv).trans (HCY.out k hk)))
    belowK_t (belowK_b (by simp)) (Below.refl _ _) (fun _ => rfl)
    (fun pre W => ((∀ k ∈ pre, rising xs ys k) ∧ W.cell? ⟨w.heap.size + 1, 0, none⟩ = some (.int .i64 0) ∧ W.frozen? ⟨w.heap.size + 1, 0, none⟩ = false ∧ W.cell? ⟨w.heap.size + 1 + 1, 0, none⟩ = some (.slice (some ⟨bu, ou, none⟩) xs.length cu)) ∧ Below w.heap.size w W)
    (fun c pre W => (c = .ret ∧ (∃ k ∈ pre, ¬ rising xs ys k) ∧ W.cell? ⟨w.heap.size + 1, 0, none⟩ = some (.int .i64 2)) ∧ Below w.heap.size w W)
    (OwnFrom.and (Own.from (fun s A B row hs hg hr => ⟨hs.1, cell_kept hs.2.1 hg hr, (frozen_kept hs.2.1 hg hr).trans hs.2.2.1, cell_kept hs.2.2.2 hg hr⟩) _) (ownFrom_below (Nat.le_refl _) (by simp; omega)))
    (fun c => OwnFrom.and (Own.from (fun s A B row hs hg hr => ⟨hs.1, hs.2.1, cell_kept hs.2.2 hg hr⟩) _) (ownFrom_below (Nat.le_refl _) (by simp; omega)))
    ⟨⟨by simp, by go_simp, by go_simp, by go_simp⟩, kW⟩
    (fun k a' W => ∃ Bx, w.heap.size + 2 < Bx ∧ W.cell? ⟨Bx, 2, none⟩ = some (.int .i64 (xs.getD (k + 1) 0 - xs.getD k 0)) ∧ W.cell? ⟨Bx, 3, none⟩ = some (.int .i64 (ys.getD (k + 1) 0 - ys.getD k 0)) ∧ a' = { tmps := #[(.agg #[(.slice (some ⟨bu, ou, none⟩) xs.length cu), (.slice (some ⟨bv, ov, none⟩) xs.length cv)]), (.pointer (some ⟨w.heap.size, 0, none⟩)), (.pointer (some ⟨w.heap.size + 1, 0, none⟩)), (.func (.func 50) #[] #[]), undef, (.pointer (some ⟨Bx, 0, none⟩)), (.pointer (some ⟨w.heap.size, 0, none⟩)), (.slice (some ⟨bu, ou, none⟩) xs.length cu), (.int .i64 xs.length), (.pointer (some ⟨w.heap.size, 1, none⟩)), (.slice (some ⟨bv, ov, none⟩) xs.length cv), (.int .i64 xs.length), (.int .i64 xs.length), (.bool (decide (64 < (xs.length : Int)))), (.pointer (some ⟨w.heap.size, 0, none⟩)), (.slice (some ⟨bu, ou, none⟩) xs.length cu), (.int .i64 xs.length), (.pointer (some ⟨w.heap.size, 1, none⟩)), (.slice (some ⟨bv, ov, none⟩) xs.length cv), (.int .i64 xs.length), (.bool false), (.bool false), (.pointer (some ⟨w.heap.size, 0, none⟩)), (.slice (some ⟨bu, ou, none⟩) xs.length cu), (.int .i64 xs.length), (.bool (decide ((xs.length : Int) < 2))), (.bool (decide ((xs.length : Int) < 2))), (.bool (decide ((xs.length : Int) < 2))), (.pointer (some ⟨w.heap.size, 0, none⟩)), (.slice (some ⟨bu, ou, none⟩) xs.length cu), (.func (.func 50) #[] #[]), (.bool false), (.bool (decide ((xs.length : Int) < 2))), (.bool (decide ((xs.length : Int) < 2))), (.pointer (some ⟨w.heap.size, 1, none⟩)), (.slice (some ⟨bv, ov, none⟩) xs.length cv), (.func (.func 50) #[] #[]), (.bool false), (.bool (decide ((xs.length : Int) < 2))), (.agg #[(.slice (some ⟨bu, ou, none⟩) xs.length cu), (.slice (some ⟨bv, ov, none⟩) xs.length cv)]), (.func (.func 83) #[] #[.pointer (some ⟨w.heap.size + 1 + 1, 0, none⟩)]), (.int .i64 k), (.agg #[.int .i64 (xs.getD k 0), .int .i64 (ys.getD k 0), .int .i64 (xs.getD (k + 1) 0 - xs.getD k 0), .int .i64 (ys.getD (k + 1) 0 - ys.getD k 0)]), undef, undef, undef, undef, undef, undef, undef, undef], defers := [] })
    (fun k a' _ A B row hs hg hr => by obtain ⟨Bx, h1, h2, h3, h4⟩ := hs; exact ⟨Bx, h1, cell_kept h2 hg (fun r e => (hr r e).2), cell_kept h3 hg (fun r e => (hr r e).2), h4⟩) ?assign ?body ?done ?stop
  case assign =>
    rintro l pre k W K ⟨⟨i1, i2, i3, i5⟩, i4⟩ hK
    have hs : w.heap.size + 1 + 1 < W.heap.size := cell_lt i5
    dsimp only [pcs]
    gi_wp2
    exact hK _ _ ((KeepsOthers.alloc _ _).from _) ((Below.refl _ W).alloc (by omega) _) ⟨⟨i1, cell_step i2 bAl', free_step i2 i3 bAl', cell_step i5 bAl'⟩, i4.alloc (by omega) _⟩ ⟨W.heap.size, by omega, by go_simp, by go_simp, rfl⟩
  case body =>
    rintro l pre k a' W hl ⟨r', hr'⟩ ⟨⟨i1, i2, i3, i5⟩, i4⟩ ⟨Bx, hBx, c2, c3, rfl⟩ hlt
    have hs : w.heap.size + 1 + 1 < W.heap.size := cell_lt i5
    obtain ⟨q1, q2, q3, q4⟩ := HQ.out k
    obtain ⟨q5, q6, q7, q8⟩ := HQ.out (k + 1)
    by_cases hr : rising xs ys k
    · have hd1 : 0 < xs.getD (k + 1) 0 - xs.getD k 0 := by have := hr.1; omega
      have hd2 : 0 ≤ ys.getD (k + 1) 0 - ys.getD k 0 := by have := hr.2; omega
      have hI : ∀ j ∈ pre ++ [k], rising xs ys j := by
        intro j hj
        rcases List.mem_append.1 hj with hj | hj
        · exact i1 j hj
        · simp at hj; rw [hj]; exact hr
      generalize xs.getD (k + 1) 0 - xs.getD k 0 = dx at *
      generalize ys.getD (k + 1) 0 - ys.getD k 0 = dy at *
      generalize xs.getD k 0 = X at *
      generalize ys.getD k 0 = Y at *
      clear hr q5 q6 q7 q8
      gi_wp2
      exact ⟨(KeepsOthers.refl _).from _, Below.refl _ _, ⟨hI, i2, i3, i5⟩, i4⟩
    · have hI : ∃ j ∈ pre ++ [k], ¬ rising xs ys j := ⟨k, by simp, hr⟩
      have hd : xs.getD (k + 1) 0 - xs.getD k 0 ≤ 0 ∨ (0 < xs.getD (k + 1) 0 - xs.getD k 0 ∧ ys.getD (k + 1) 0 - ys.getD k 0 < 0) := by
        unfold rising at hr; omega
      generalize xs.getD (k + 1) 0 - xs.getD k 0 = dx at *
      generalize ys.getD (k + 1) 0 - ys.getD k 0 = dy at *
      generalize xs.getD k 0 = X at *
      generalize ys.getD k 0 = Y at *
      clear hr q5 q6 q7 q8
      rcases hd with hd | ⟨hd, hd2⟩
      all_goals
        gi_wp2
        exact ⟨(KeepsOthers.setCell _ _ _).from _, ⟨rfl, hI, World.cell?_setCell_same' _ _ _ (by rw [i2]; rfl)⟩, i4.setCell (p := ⟨w.heap.size + 1, 0, none⟩) (by simp) _⟩
  case done =>
    rintro D zs W hD rfl ⟨⟨hall, hcr, hfr, -⟩, hB⟩ hK
    obtain rfl : r = 0 := hck.out.1.2 (fun k hk => hall k (List.mem_range.2 hk))
    gi_wp2
    have hK' := (KeepsOthers.setCell W ⟨w.heap.size + 1, 0, none⟩ (.int .i64 0)).same D _ hK rfl
    refine ⟨by simp, .inl ⟨_, _, rfl, run_takeDeferred hK', ?_⟩⟩
    have hc5 := cell_kept (World.cell?_setCell_same' W ⟨w.heap.size + 1, 0, none⟩ (.int .i64 0) (by rw [hcr]; rfl)) (grownBy_putObj' _ D (.deferred none)) (fun r e => by cases e; exact ⟨_, hK', rfl⟩)
    refine ⟨.int .i64 0, ?_, rfl, (hB.setCell (p := ⟨w.heap.size + 1, 0, none⟩) (by simp) _).trans (belowK_b (w := w) (Nat.le_refl _) _ D _ _ (by simp at hD; omega) hK' rfl rfl)⟩
    simp [results, Try.f12, go_sem, hc5]
  case stop =>
    rintro D c pre W hD ⟨k', hk', rfl⟩ ⟨⟨rfl, ⟨k, hk, hnr⟩, hcr⟩, hB⟩ hK
    obtain rfl : r = 2 := hck.out.2 ⟨k, by have := List.mem_range.1 hk; omega, hnr⟩
    gi_wp2
    refine ⟨by simp, .inl ⟨_, _, rfl, run_takeDeferred hK, ?_⟩⟩
    have hc5 := cell_kept hcr (grownBy_putObj' _ D (.deferred none)) (fun r e => by cases e; exact ⟨_, hK, rfl⟩)
    refine ⟨.int .i64 2, ?_, rfl, hB.trans (belowK_b (w := w) (Nat.le_refl _) W D _ _ (by simp at hD; omega) hK rfl rfl)⟩
    simp [results, Try.f12, go_sem, hc5]


end Go.Proofs.Ytngnehlmbipabaa
