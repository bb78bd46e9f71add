/-
  At, at a valid curve; sort.Search by a contract of its closure.
-/
import Derived.Test.YtngnehlmbipabaaG23Backs
import Derived.Test.YtngnehlmbipabaaG11Backs
set_option linter.unusedSimpArgs false
set_option linter.unusedVariables false
namespace Go.Proofs.Ytngnehlmbipabaa
open Go.RowKit
theorem two_boxesV {w : World} {o1 o2 : Obj} : ((w.alloc o1).alloc o2).heap[w.heap.size]? = some o1 ∧ ((w.alloc o1).alloc o2).heap[w.heap.size + 1]? = some o2 := by
  refine ⟨blk_alloc (blk_new w o1), ?_⟩
  have := blk_new (w.alloc o1) o2
  simpa using this
set_option maxHeartbeats 2000000 in
set_option maxRecDepth 20000 in
theorem At_ok (bu ou cu bv ov cv : Nat) (xs ys : List Int) (x : Int) (w : World) (hC : checkC xs ys = 0) (hx : isQ x = true) (hA : IntAt (some ⟨bu, ou, none⟩) xs w) (hB : IntAt (some ⟨bv, ov, none⟩) ys w) :
    Calls Try.prog 14 #[.agg #[.slice (some ⟨bu, ou, none⟩) xs.length cu, .slice (some ⟨bv, ov, none⟩) xs.length cv], .int .i64 x] w fun e w' => e = .returned (.tuple #[.agg #[.int .i64 (valS xs ys x).1, .int .i64 (valS xs ys x).2], .int .i64 0]) ∧ Below w.heap.size w w' := by
  have hg := checkC_good hC
  have p1 := hg.1.1.1
  have C := Lib.hid (fun W h1 h2 => CheckCurve_any (some ⟨bu, ou, none⟩) (some ⟨bv, ov, none⟩) cu cv xs ys W (by have := hg.2; omega) (by have := hg.2; omega) h1 h2)
  rw [hC, ← p1] at C
  have V := Lib.hid (fun W h1 h2 => value_any bu ou cu bv ov cv xs ys x W hC hx h1 h2)
  have HA := Lib.hid hA
  have HB := Lib.hid hB
  have BX := Lib.hid (two_boxesV (w := w) (o1 := .cells #[.slice (some ⟨bu, ou, none⟩) xs.length cu, .slice (some ⟨bv, ov, none⟩) xs.length cv] 24) (o2 := .cells #[.int .i64 0, .int .i64 0] 40))
  generalize valS xs ys x = o at *
  obtain ⟨o1, o2⟩ := o
  clear hg p1 hA hB hC
  go_enter Try.func14, Try.ntmps14
  go_wp2_with (first
    | (go_at_call 12; refine (C.out _ (HA.out.step (by repeat' (first | exact Below.refl _ _ | assumption | apply bDrewN | apply bDrew | apply bAlloc | (refine bSet ?_ ?_ _) | (refine bStep ?_ (by assumption)) | omega | (simp <;> omega)))) (HB.out.step (by repeat' (first | exact Below.refl _ _ | assumption | apply bDrewN | apply bDrew | apply bAlloc | (refine bSet ?_ ?_ _) | (refine bStep ?_ (by assumption)) | omega | (simp <;> omega))))).mono ?_; rintro e w1 ⟨rfl, hb1⟩; obtain ⟨c0, c1, k0⟩ := cv_open (blk_step BX.out.1 hb1); obtain ⟨c2, c3, f2, f3, k1⟩ := cv_openS (blk_step BX.out.2 hb1))
    | (go_at_call 39; refine (is_any _ _).mono ?_; rw [hx]; rintro e w' ⟨rfl, rfl⟩)
    | (go_at_call 53; refine (V.out _ (HA.out.step (by repeat' (first | exact Below.refl _ _ | assumption | apply bDrewN | apply bDrew | apply bAlloc | (refine bSet ?_ ?_ _) | (refine bStep ?_ (by assumption)) | omega | (simp <;> omega)))) (HB.out.step (by repeat' (first | exact Below.refl _ _ | assumption | apply bDrewN | apply bDrew | apply bAlloc | (refine bSet ?_ ?_ _) | (refine bStep ?_ (by assumption)) | omega | (simp <;> omega))))).mono ?_; rintro e w2 ⟨rfl, hb2⟩; obtain ⟨d2, d3, g2, g3, k2⟩ := cv_openS (blk_step (blk_step BX.out.2 hb1) hb2)))
  exact bodyPost_ret (v := .tuple #[.agg #[.int .i64 o1, .int .i64 o2], .int .i64 0]) (by simp only [results, Try.results14]; go_simp) rfl ⟨rfl, (by repeat' (first | exact Below.refl _ _ | assumption | apply bDrewN | apply bDrew | apply bAlloc | (refine bSet ?_ ?_ _) | (refine bStep ?_ (by assumption)) | omega | (simp <;> omega)))⟩
/-- The least number from which on p is true, up to N. -/
structure Least (N : Nat) (p : Nat → Bool) (r : Nat) : Prop where
  le : r ≤ N
  no : ∀ i, i < r → p i = false
  yes : ∀ i, r ≤ i → i < N → p i = true
set_option maxHeartbeats 2000000 in
set_option maxRecDepth 20000 in
theorem Search_any (N : Nat) (p : Nat → Bool) (c1 c2 c3 : Value) (w : World) (hN : N ≤ 4611686018427387904) (hp : ∀ a b, a ≤ b → p a = true → p b = true)
    (H : ∀ h, h < N → ∀ W, Below w.heap.size w W → Calls Try.prog 57 #[.int .i64 (h : Nat), c1, c2, c3] W fun e w' => e = .returned (.bool (p h)) ∧ Below W.heap.size W w') :
    Calls Try.prog 56 #[.int .i64 (N : Nat), .func (.func 57) #[] #[c1, c2, c3]] w fun e w' => ∃ r : Nat, e = .returned (.int .i64 (r : Nat)) ∧ Least N p r ∧ Below w.heap.size w w' := by
  have HH := Lib.hid H
  have HP := Lib.hid hp
  clear H hp
  go_enter Try.func56, Try.ntmps56
  go_wp2_with fail
  go_loopw [5, 6] (fun i j wr => ∃ a b : Nat, a ≤ b ∧ b ≤ N ∧ i = .int .i64 a ∧ j = .int .i64 b ∧ Hid (Below w.heap.size w wr) ∧ Hid ((∀ k, k < a → p k = false) ∧ (∀ k, b ≤ k → k < N → p k = true))) (fun i j _ => (intOf j).toNat - (intOf i).toNat)
  case atStart => exact ⟨0, N, by omega, by omega, rfl, rfl, Below.refl _ _, ⟨fun k hk => by omega, fun k h1 h2 => by omega⟩⟩
  case round =>
    obtain ⟨a, b, hab, hbN, rfl, rfl, HW, HI⟩ := hrel
    have hb := HW.out
    by_cases hlt : a < b
    · have hlt2 : (a : Int) < b := by omega
      obtain ⟨h, hh⟩ : ∃ h : Nat, h = (a + b) / 2 := ⟨_, rfl⟩
      have hh1 : a ≤ h ∧ h < b := by omega
      have hh2 : ((a : Int) + b) / 2 = (h : Nat) := by omega
      have e1 : IntKind.i64.wrap ((a : Int) + b) = (a : Int) + b := Go.IntWalk.i64_in _ ⟨by omega, by omega⟩
      have e2 : IntKind.u64.wrap ((a : Int) + b) = (a : Int) + b := Go.IntWalk.u64_in _ ⟨by omega, by omega⟩
      have e3 : IntKind.i64.wrap (((h : Nat) : Int)) = (h : Nat) := Go.IntWalk.i64_in _ ⟨by omega, by omega⟩
      have e4 : IntKind.i64.wrap (((h : Nat) : Int) + 1) = (h : Nat) + 1 := Go.IntWalk.i64_in _ ⟨by omega, by omega⟩
      have CX := Lib.hid (HH.out h (by omega))
      cases hph : p h
      · rw [hph] at CX
        have HI2 : Hid ((∀ k, k < h + 1 → p k = false) ∧ (∀ k, b ≤ k → k < N → p k = true)) := by
          refine ⟨fun k hk => ?_, HI.out.2⟩
          cases hk2 : p k with
          | false => rfl
          | true =>
            have := HP.out k h (by omega) hk2
            rw [hph] at this
            cases this
        clear HI hh hph
        go_wp2_with (go_at_call 57; refine (CX.out _ (by repeat' (first | exact Below.refl _ _ | assumption | apply bDrewN | apply bDrew | apply bAlloc | (refine bSet ?_ ?_ _) | (refine bStep ?_ (by assumption)) | omega | (simp <;> omega)))).mono ?_; rintro e w1 ⟨rfl, hb1⟩)
        go_roundw
        case rel => exact ⟨h + 1, b, by omega, by omega, by push_cast; rfl, rfl, bStep hb hb1, HI2⟩
        case measure => (simp [intOf]; omega)
      · rw [hph] at CX
        have HI2 : Hid ((∀ k, k < a → p k = false) ∧ (∀ k, h ≤ k → k < N → p k = true)) := ⟨HI.out.1, fun k h1 h2 => HP.out h k h1 hph⟩
        clear HI hh hph
        go_wp2_with (go_at_call 57; refine (CX.out _ (by repeat' (first | exact Below.refl _ _ | assumption | apply bDrewN | apply bDrew | apply bAlloc | (refine bSet ?_ ?_ _) | (refine bStep ?_ (by assumption)) | omega | (simp <;> omega)))).mono ?_; rintro e w1 ⟨rfl, hb1⟩)
        go_roundw
        case rel => exact ⟨a, h, by omega, by omega, rfl, rfl, bStep hb hb1, HI2⟩
        case measure => (simp [intOf]; omega)
    · obtain rfl : a = b := by omega
      have hle : ¬ (a : Int) < a := by omega
      go_wp2_with fail
      exact bodyPost_ret (v := .int .i64 ((a : Nat) : Int)) (by simp only [results, Try.results56]; go_simp) rfl ⟨a, rfl, ⟨hbN, HI.out.1, HI.out.2⟩, (by repeat' (first | exact Below.refl _ _ | assumption | apply bDrewN | apply bDrew | apply bAlloc | (refine bSet ?_ ?_ _) | (refine bStep ?_ (by assumption)) | omega | (simp <;> omega)))⟩
end Go.Proofs.Ytngnehlmbipabaa

/-
  The closures of Back.
-/
set_option linter.unusedSimpArgs false
set_option linter.unusedVariables false
namespace Go.Proofs.Ytngnehlmbipabaa
open Go.RowKit
set_option maxHeartbeats 1000000 in
theorem Yes2_any (l h s1 s2 : Int) (bs : Nat) (w : World) (h0 : w.cell? ⟨bs, 0, none⟩ = some (.int .i64 s1)) (h1 : w.cell? ⟨bs, 1, none⟩ = some (.int .i64 s2)) :
    Calls Try.prog 58 #[.agg #[.int .i64 l, .int .i64 h], .pointer (some ⟨bs, 0, none⟩)] w fun e w' => e = .returned (.bool (decide (s1 ≤ l))) ∧ Below w.heap.size w w' := by
  have hlt := cell_lt h0
  go_enter Try.func58, Try.ntmps58
  go_wp2_with fail
  go_ret
  exact ⟨rfl, (by repeat' (first | exact Below.refl _ _ | assumption | apply bDrewN | apply bDrew | apply bAlloc | (refine bSet ?_ ?_ _) | (refine bStep ?_ (by assumption)) | omega | (simp <;> omega)))⟩

set_option maxHeartbeats 1000000 in
theorem Yes3_any (l h s1 s2 : Int) (bs : Nat) (w : World) (h0 : w.cell? ⟨bs, 0, none⟩ = some (.int .i64 s1)) (h1 : w.cell? ⟨bs, 1, none⟩ = some (.int .i64 s2)) :
    Calls Try.prog 59 #[.agg #[.int .i64 l, .int .i64 h], .pointer (some ⟨bs, 0, none⟩)] w fun e w' => e = .returned (.bool (decide (s2 < h))) ∧ Below w.heap.size w w' := by
  have hlt := cell_lt h0
  go_enter Try.func59, Try.ntmps59
  go_wp2_with fail
  go_ret
  exact ⟨rfl, (by repeat' (first | exact Below.refl _ _ | assumption | apply bDrewN | apply bDrew | apply bAlloc | (refine bSet ?_ ?_ _) | (refine bStep ?_ (by assumption)) | omega | (simp <;> omega)))⟩

/-- What the closures hold on to. -/
structure CapQ (bf bl bc bs : Nat) (sx sy : Value) (first last s1 s2 : Int) (W : World) : Prop where
  f : W.cell? ⟨bf, 0, none⟩ = some (.int .i64 first)
  l : W.cell? ⟨bl, 0, none⟩ = some (.int .i64 last)
  cx : W.cell? ⟨bc, 0, none⟩ = some sx
  cy : W.cell? ⟨bc, 1, none⟩ = some sy
  s0 : W.cell? ⟨bs, 0, none⟩ = some (.int .i64 s1)
  s1 : W.cell? ⟨bs, 1, none⟩ = some (.int .i64 s2)
theorem CapQ.step {bf bl bc bs : Nat} {sx sy : Value} {first last s1 s2 : Int} {W w2 : World} (h : CapQ bf bl bc bs sx sy first last s1 s2 W) (hb : Below W.heap.size W w2) : CapQ bf bl bc bs sx sy first last s1 s2 w2 :=
  ⟨cell_step h.f hb, cell_step h.l hb, cell_step h.cx hb, cell_step h.cy hb, cell_step h.s0 hb, cell_step h.s1 hb⟩
def predV (xs ys : List Int) (first s1 s2 : Int) (two : Bool) (i : Nat) : Bool := bif two then decide (s1 ≤ (valS xs ys (first + i)).1) else decide (s2 < (valS xs ys (first + i)).2)
set_option maxHeartbeats 4000000 in
set_option maxRecDepth 20000 in
theorem Probe_true (bu ou cu bv ov cv by_ bf bl bc bs : Nat) (xs ys : List Int) (first last s1 s2 : Int) (i : Nat) (w : World) (hC : checkC xs ys = 0) (hf : isQ first = true) (hx : isQ (first + i) = true) (hA : IntAt (some ⟨bu, ou, none⟩) xs w) (hB : IntAt (some ⟨bv, ov, none⟩) ys w)
    (hy : w.cell? ⟨by_, 0, none⟩ = some (.func (.func 58) #[] #[.pointer (some ⟨bs, 0, none⟩)])) (hQ : CapQ bf bl bc bs (.slice (some ⟨bu, ou, none⟩) xs.length cu) (.slice (some ⟨bv, ov, none⟩) xs.length cv) first last s1 s2 w) :
    Calls Try.prog 57 #[.int .i64 (i : Nat), .pointer (some ⟨by_, 0, none⟩), .pointer (some ⟨bc, 0, none⟩), .pointer (some ⟨bf, 0, none⟩)] w fun e w' => e = .returned (.bool (predV xs ys first s1 s2 true i)) ∧ Below w.heap.size w w' := by
  have V := Lib.hid (fun W h1 h2 => value_any bu ou cu bv ov cv xs ys (first + i) W hC hx h1 h2)
  have HA := Lib.hid hA
  have HB := Lib.hid hB
  have hfq := (isQ_iff _).1 hf
  have hxq := (isQ_iff _).1 hx
  have a1 : IntKind.i64.wrap (first + (i : Nat)) = first + (i : Nat) := Go.IntWalk.i64_in _ ⟨by omega, by omega⟩
  unfold predV
  generalize valS xs ys (first + (i : Nat)) = o at *
  obtain ⟨o1, o2⟩ := o
  dsimp only [cond]
  have CY := Lib.hid (fun W h0 h1 => Yes2_any o1 o2 s1 s2 bs W h0 h1)
  have HQ := Lib.hid hQ
  have HY := Lib.hid hy
  clear hA hB hC hf hx hQ hy
  go_enter Try.func57, Try.ntmps57
  go_upto_region 1 with fail
  refine region_effs 7 8 [] [(none, []), (none, []), (none, []), (none, []), (none, []), (none, []), (none, [])] [(6, (.func (.func 58) #[] #[.pointer (some ⟨bs, 0, none⟩)])), (7, (.agg #[(.slice (some ⟨bu, ou, none⟩) xs.length cu), (.slice (some ⟨bv, ov, none⟩) xs.length cv)])), (8, (.int .i64 first)), (9, (.int .i64 ((i : Nat) : Int))), (10, (.int .i64 (first + (i : Nat)))), (11, (.agg #[.int .i64 o1, .int .i64 o2])), (12, (.bool (decide (s1 ≤ o1))))] (fun bsE vsE W => Below w.heap.size w W) (by kernel_rfl) (by kernel_rfl) rfl (by kernel_rfl) (by kernel_rfl) (by simp) (by rfl) ?h0 ?each ?tail
  case h0 =>
    intro vsE hlv
    obtain rfl := len_nil hlv
    exact (by repeat' (first | exact Below.refl _ _ | assumption | apply bDrewN | apply bDrew | apply bAlloc | (refine bSet ?_ ?_ _) | (refine bStep ?_ (by assumption)) | omega | (simp <;> omega)))
  case each =>
    simp only [List.take_succ_cons, List.take_zero, AllE]
    refine ⟨?_, ?_, ?_, ?_, ?_, ?_, ?_, trivial⟩
    · refine ⟨6, (.func (.func 58) #[] #[.pointer (some ⟨bs, 0, none⟩)]), rfl, by kernel_rfl, ?_⟩
      intro bsE vsE W hlb hlv hnd h
      obtain rfl := len_nil hlb
      obtain rfl := len_nil hlv
      replace h : Below w.heap.size w W := h
      clear hnd
      have HST := Lib.hid h
      have hq := HQ.out.step h; have hyy := cell_step HY.out h; obtain ⟨q1, q2, q3, q4, q5, q6⟩ := id hq
      intro K Q hK
      simp only [putE, updAll, Act.put, List.setIfInBounds_toArray, List.set_cons_zero, List.set_cons_succ, List.set_nil] at hK ⊢
      go_wp2_with (fail)
      all_goals (first | exact hK _ (by first | exact h | exact bStep h (by first | assumption | (repeat' (first | exact Below.refl _ _ | apply bDrewN | apply bDrew)))) | exact (by first | exact h | exact bStep h (by first | assumption | (repeat' (first | exact Below.refl _ _ | apply bDrewN | apply bDrew)))))
    · refine ⟨7, (.agg #[(.slice (some ⟨bu, ou, none⟩) xs.length cu), (.slice (some ⟨bv, ov, none⟩) xs.length cv)]), rfl, by kernel_rfl, ?_⟩
      intro bsE vsE W hlb hlv hnd h
      obtain rfl := len_nil hlb
      obtain rfl := len_nil hlv
      replace h : Below w.heap.size w W := h
      clear hnd
      have HST := Lib.hid h
      have hq := HQ.out.step h; have hyy := cell_step HY.out h; obtain ⟨q1, q2, q3, q4, q5, q6⟩ := id hq
      intro K Q hK
      simp only [putE, updAll, Act.put, List.setIfInBounds_toArray, List.set_cons_zero, List.set_cons_succ, List.set_nil] at hK ⊢
      go_wp2_with (fail)
      all_goals (first | exact hK _ (by first | exact h | exact bStep h (by first | assumption | (repeat' (first | exact Below.refl _ _ | apply bDrewN | apply bDrew)))) | exact (by first | exact h | exact bStep h (by first | assumption | (repeat' (first | exact Below.refl _ _ | apply bDrewN | apply bDrew)))))
    · refine ⟨8, (.int .i64 first), rfl, by kernel_rfl, ?_⟩
      intro bsE vsE W hlb hlv hnd h
      obtain rfl := len_nil hlb
      obtain rfl := len_nil hlv
      replace h : Below w.heap.size w W := h
      clear hnd
      have HST := Lib.hid h
      have hq := HQ.out.step h; have hyy := cell_step HY.out h; obtain ⟨q1, q2, q3, q4, q5, q6⟩ := id hq
      intro K Q hK
      simp only [putE, updAll, Act.put, List.setIfInBounds_toArray, List.set_cons_zero, List.set_cons_succ, List.set_nil] at hK ⊢
      go_wp2_with (fail)
      all_goals (first | exact hK _ (by first | exact h | exact bStep h (by first | assumption | (repeat' (first | exact Below.refl _ _ | apply bDrewN | apply bDrew)))) | exact (by first | exact h | exact bStep h (by first | assumption | (repeat' (first | exact Below.refl _ _ | apply bDrewN | apply bDrew)))))
    · refine ⟨9, (.int .i64 ((i : Nat) : Int)), rfl, by kernel_rfl, ?_⟩
      intro bsE vsE W hlb hlv hnd h
      obtain rfl := len_nil hlb
      obtain rfl := len_nil hlv
      replace h : Below w.heap.size w W := h
      clear hnd
      have HST := Lib.hid h
      have hq := HQ.out.step h; have hyy := cell_step HY.out h; obtain ⟨q1, q2, q3, q4, q5, q6⟩ := id hq
      intro K Q hK
      simp only [putE, updAll, Act.put, List.setIfInBounds_toArray, List.set_cons_zero, List.set_cons_succ, List.set_nil] at hK ⊢
      go_wp2_with (fail)
      all_goals (first | exact hK _ (by first | exact h | exact bStep h (by first | assumption | (repeat' (first | exact Below.refl _ _ | apply bDrewN | apply bDrew)))) | exact (by first | exact h | exact bStep h (by first | assumption | (repeat' (first | exact Below.refl _ _ | apply bDrewN | apply bDrew)))))
    · refine ⟨10, (.int .i64 (first + (i : Nat))), rfl, by kernel_rfl, ?_⟩
      intro bsE vsE W hlb hlv hnd h
      obtain rfl := len_nil hlb
      obtain rfl := len_nil hlv
      replace h : Below w.heap.size w W := h
      clear hnd
      have HST := Lib.hid h
      have hq := HQ.out.step h; have hyy := cell_step HY.out h; obtain ⟨q1, q2, q3, q4, q5, q6⟩ := id hq
      intro K Q hK
      simp only [putE, updAll, Act.put, List.setIfInBounds_toArray, List.set_cons_zero, List.set_cons_succ, List.set_nil] at hK ⊢
      go_wp2_with (fail)
      all_goals (first | exact hK _ (by first | exact h | exact bStep h (by first | assumption | (repeat' (first | exact Below.refl _ _ | apply bDrewN | apply bDrew)))) | exact (by first | exact h | exact bStep h (by first | assumption | (repeat' (first | exact Below.refl _ _ | apply bDrewN | apply bDrew)))))
    · refine ⟨11, (.agg #[.int .i64 o1, .int .i64 o2]), rfl, by kernel_rfl, ?_⟩
      intro bsE vsE W hlb hlv hnd h
      obtain rfl := len_nil hlb
      obtain rfl := len_nil hlv
      replace h : Below w.heap.size w W := h
      clear hnd
      have HST := Lib.hid h
      have hq := HQ.out.step h; have hyy := cell_step HY.out h; obtain ⟨q1, q2, q3, q4, q5, q6⟩ := id hq
      intro K Q hK
      simp only [putE, updAll, Act.put, List.setIfInBounds_toArray, List.set_cons_zero, List.set_cons_succ, List.set_nil] at hK ⊢
      go_wp2_with (go_at_call 53; refine (V.out _ (HA.out.step h) (HB.out.step h)).mono ?_; rintro e w9 ⟨rfl, hb9⟩)
      all_goals (first | exact hK _ (by first | exact h | exact bStep h (by first | assumption | (repeat' (first | exact Below.refl _ _ | apply bDrewN | apply bDrew)))) | exact (by first | exact h | exact bStep h (by first | assumption | (repeat' (first | exact Below.refl _ _ | apply bDrewN | apply bDrew)))))
    · refine ⟨12, (.bool (decide (s1 ≤ o1))), rfl, by kernel_rfl, ?_⟩
      intro bsE vsE W hlb hlv hnd h
      obtain rfl := len_nil hlb
      obtain rfl := len_nil hlv
      replace h : Below w.heap.size w W := h
      clear hnd
      have HST := Lib.hid h
      have hq := HQ.out.step h; have hyy := cell_step HY.out h; obtain ⟨q1, q2, q3, q4, q5, q6⟩ := id hq
      intro K Q hK
      simp only [putE, updAll, Act.put, List.setIfInBounds_toArray, List.set_cons_zero, List.set_cons_succ, List.set_nil] at hK ⊢
      go_wp2_with (go_at_call 58; refine (CY.out _ hq.s0 hq.s1).mono ?_; rintro e w9 ⟨rfl, hb9⟩)
      all_goals (first | exact hK _ (by first | exact h | exact bStep h (by first | assumption | (repeat' (first | exact Below.refl _ _ | apply bDrewN | apply bDrew)))) | exact (by first | exact h | exact bStep h (by first | assumption | (repeat' (first | exact Below.refl _ _ | apply bDrewN | apply bDrew)))))
  case tail =>
    intro vsE W hlv h
    obtain rfl := len_nil hlv
    replace h : Below w.heap.size w W := h
    have HST := Lib.hid h
    refine wpOp_plain rfl rfl ?_
    simp only [putE, updAll, Act.put, List.setIfInBounds_toArray, List.set_cons_zero, List.set_cons_succ, List.set_nil]
    go_wp2_with fail
    go_ret
    exact ⟨rfl, (by repeat' (first | exact Below.refl _ _ | assumption | apply bDrewN | apply bDrew | apply bAlloc | (refine bSet ?_ ?_ _) | (refine bStep ?_ (by assumption)) | omega | (simp <;> omega)))⟩
set_option maxHeartbeats 4000000 in
set_option maxRecDepth 20000 in
theorem Probe_false (bu ou cu bv ov cv by_ bf bl bc bs : Nat) (xs ys : List Int) (first last s1 s2 : Int) (i : Nat) (w : World) (hC : checkC xs ys = 0) (hf : isQ first = true) (hx : isQ (first + i) = true) (hA : IntAt (some ⟨bu, ou, none⟩) xs w) (hB : IntAt (some ⟨bv, ov, none⟩) ys w)
    (hy : w.cell? ⟨by_, 0, none⟩ = some (.func (.func 59) #[] #[.pointer (some ⟨bs, 0, none⟩)])) (hQ : CapQ bf bl bc bs (.slice (some ⟨bu, ou, none⟩) xs.length cu) (.slice (some ⟨bv, ov, none⟩) xs.length cv) first last s1 s2 w) :
    Calls Try.prog 57 #[.int .i64 (i : Nat), .pointer (some ⟨by_, 0, none⟩), .pointer (some ⟨bc, 0, none⟩), .pointer (some ⟨bf, 0, none⟩)] w fun e w' => e = .returned (.bool (predV xs ys first s1 s2 false i)) ∧ Below w.heap.size w w' := by
  have V := Lib.hid (fun W h1 h2 => value_any bu ou cu bv ov cv xs ys (first + i) W hC hx h1 h2)
  have HA := Lib.hid hA
  have HB := Lib.hid hB
  have hfq := (isQ_iff _).1 hf
  have hxq := (isQ_iff _).1 hx
  have a1 : IntKind.i64.wrap (first + (i : Nat)) = first + (i : Nat) := Go.IntWalk.i64_in _ ⟨by omega, by omega⟩
  unfold predV
  generalize valS xs ys (first + (i : Nat)) = o at *
  obtain ⟨o1, o2⟩ := o
  dsimp only [cond]
  have CY := Lib.hid (fun W h0 h1 => Yes3_any o1 o2 s1 s2 bs W h0 h1)
  have HQ := Lib.hid hQ
  have HY := Lib.hid hy
  clear hA hB hC hf hx hQ hy
  go_enter Try.func57, Try.ntmps57
  go_upto_region 1 with fail
  refine region_effs 7 8 [] [(none, []), (none, []), (none, []), (none, []), (none, []), (none, []), (none, [])] [(6, (.func (.func 59) #[] #[.pointer (some ⟨bs, 0, none⟩)])), (7, (.agg #[(.slice (some ⟨bu, ou, none⟩) xs.length cu), (.slice (some ⟨bv, ov, none⟩) xs.length cv)])), (8, (.int .i64 first)), (9, (.int .i64 ((i : Nat) : Int))), (10, (.int .i64 (first + (i : Nat)))), (11, (.agg #[.int .i64 o1, .int .i64 o2])), (12, (.bool (decide (s2 < o2))))] (fun bsE vsE W => Below w.heap.size w W) (by kernel_rfl) (by kernel_rfl) rfl (by kernel_rfl) (by kernel_rfl) (by simp) (by rfl) ?h0 ?each ?tail
  case h0 =>
    intro vsE hlv
    obtain rfl := len_nil hlv
    exact (by repeat' (first | exact Below.refl _ _ | assumption | apply bDrewN | apply bDrew | apply bAlloc | (refine bSet ?_ ?_ _) | (refine bStep ?_ (by assumption)) | omega | (simp <;> omega)))
  case each =>
    simp only [List.take_succ_cons, List.take_zero, AllE]
    refine ⟨?_, ?_, ?_, ?_, ?_, ?_, ?_, trivial⟩
    · refine ⟨6, (.func (.func 59) #[] #[.pointer (some ⟨bs, 0, none⟩)]), rfl, by kernel_rfl, ?_⟩
      intro bsE vsE W hlb hlv hnd h
      obtain rfl := len_nil hlb
      obtain rfl := len_nil hlv
      replace h : Below w.heap.size w W := h
      clear hnd
      have HST := Lib.hid h
      have hq := HQ.out.step h; have hyy := cell_step HY.out h; obtain ⟨q1, q2, q3, q4, q5, q6⟩ := id hq
      intro K Q hK
      simp only [putE, updAll, Act.put, List.setIfInBounds_toArray, List.set_cons_zero, List.set_cons_succ, List.set_nil] at hK ⊢
      go_wp2_with (fail)
      all_goals (first | exact hK _ (by first | exact h | exact bStep h (by first | assumption | (repeat' (first | exact Below.refl _ _ | apply bDrewN | apply bDrew)))) | exact (by first | exact h | exact bStep h (by first | assumption | (repeat' (first | exact Below.refl _ _ | apply bDrewN | apply bDrew)))))
    · refine ⟨7, (.agg #[(.slice (some ⟨bu, ou, none⟩) xs.length cu), (.slice (some ⟨bv, ov, none⟩) xs.length cv)]), rfl, by kernel_rfl, ?_⟩
      intro bsE vsE W hlb hlv hnd h
      obtain rfl := len_nil hlb
      obtain rfl := len_nil hlv
      replace h : Below w.heap.size w W := h
      clear hnd
      have HST := Lib.hid h
      have hq := HQ.out.step h; have hyy := cell_step HY.out h; obtain ⟨q1, q2, q3, q4, q5, q6⟩ := id hq
      intro K Q hK
      simp only [putE, updAll, Act.put, List.setIfInBounds_toArray, List.set_cons_zero, List.set_cons_succ, List.set_nil] at hK ⊢
      go_wp2_with (fail)
      all_goals (first | exact hK _ (by first | exact h | exact bStep h (by first | assumption | (repeat' (first | exact Below.refl _ _ | apply bDrewN | apply bDrew)))) | exact (by first | exact h | exact bStep h (by first | assumption | (repeat' (first | exact Below.refl _ _ | apply bDrewN | apply bDrew)))))
    · refine ⟨8, (.int .i64 first), rfl, by kernel_rfl, ?_⟩
      intro bsE vsE W hlb hlv hnd h
      obtain rfl := len_nil hlb
      obtain rfl := len_nil hlv
      replace h : Below w.heap.size w W := h
      clear hnd
      have HST := Lib.hid h
      have hq := HQ.out.step h; have hyy := cell_step HY.out h; obtain ⟨q1, q2, q3, q4, q5, q6⟩ := id hq
      intro K Q hK
      simp only [putE, updAll, Act.put, List.setIfInBounds_toArray, List.set_cons_zero, List.set_cons_succ, List.set_nil] at hK ⊢
      go_wp2_with (fail)
      all_goals (first | exact hK _ (by first | exact h | exact bStep h (by first | assumption | (repeat' (first | exact Below.refl _ _ | apply bDrewN | apply bDrew)))) | exact (by first | exact h | exact bStep h (by first | assumption | (repeat' (first | exact Below.refl _ _ | apply bDrewN | apply bDrew)))))
    · refine ⟨9, (.int .i64 ((i : Nat) : Int)), rfl, by kernel_rfl, ?_⟩
      intro bsE vsE W hlb hlv hnd h
      obtain rfl := len_nil hlb
      obtain rfl := len_nil hlv
      replace h : Below w.heap.size w W := h
      clear hnd
      have HST := Lib.hid h
      have hq := HQ.out.step h; have hyy := cell_step HY.out h; obtain ⟨q1, q2, q3, q4, q5, q6⟩ := id hq
      intro K Q hK
      simp only [putE, updAll, Act.put, List.setIfInBounds_toArray, List.set_cons_zero, List.set_cons_succ, List.set_nil] at hK ⊢
      go_wp2_with (fail)
      all_goals (first | exact hK _ (by first | exact h | exact bStep h (by first | assumption | (repeat' (first | exact Below.refl _ _ | apply bDrewN | apply bDrew)))) | exact (by first | exact h | exact bStep h (by first | assumption | (repeat' (first | exact Below.refl _ _ | apply bDrewN | apply bDrew)))))
    · refine ⟨10, (.int .i64 (first + (i : Nat))), rfl, by kernel_rfl, ?_⟩
      intro bsE vsE W hlb hlv hnd h
      obtain rfl := len_nil hlb
      obtain rfl := len_nil hlv
      replace h : Below w.heap.size w W := h
      clear hnd
      have HST := Lib.hid h
      have hq := HQ.out.step h; have hyy := cell_step HY.out h; obtain ⟨q1, q2, q3, q4, q5, q6⟩ := id hq
      intro K Q hK
      simp only [putE, updAll, Act.put, List.setIfInBounds_toArray, List.set_cons_zero, List.set_cons_succ, List.set_nil] at hK ⊢
      go_wp2_with (fail)
      all_goals (first | exact hK _ (by first | exact h | exact bStep h (by first | assumption | (repeat' (first | exact Below.refl _ _ | apply bDrewN | apply bDrew)))) | exact (by first | exact h | exact bStep h (by first | assumption | (repeat' (first | exact Below.refl _ _ | apply bDrewN | apply bDrew)))))
    · refine ⟨11, (.agg #[.int .i64 o1, .int .i64 o2]), rfl, by kernel_rfl, ?_⟩
      intro bsE vsE W hlb hlv hnd h
      obtain rfl := len_nil hlb
      obtain rfl := len_nil hlv
      replace h : Below w.heap.size w W := h
      clear hnd
      have HST := Lib.hid h
      have hq := HQ.out.step h; have hyy := cell_step HY.out h; obtain ⟨q1, q2, q3, q4, q5, q6⟩ := id hq
      intro K Q hK
      simp only [putE, updAll, Act.put, List.setIfInBounds_toArray, List.set_cons_zero, List.set_cons_succ, List.set_nil] at hK ⊢
      go_wp2_with (go_at_call 53; refine (V.out _ (HA.out.step h) (HB.out.step h)).mono ?_; rintro e w9 ⟨rfl, hb9⟩)
      all_goals (first | exact hK _ (by first | exact h | exact bStep h (by first | assumption | (repeat' (first | exact Below.refl _ _ | apply bDrewN | apply bDrew)))) | exact (by first | exact h | exact bStep h (by first | assumption | (repeat' (first | exact Below.refl _ _ | apply bDrewN | apply bDrew)))))
    · refine ⟨12, (.bool (decide (s2 < o2))), rfl, by kernel_rfl, ?_⟩
      intro bsE vsE W hlb hlv hnd h
      obtain rfl := len_nil hlb
      obtain rfl := len_nil hlv
      replace h : Below w.heap.size w W := h
      clear hnd
      have HST := Lib.hid h
      have hq := HQ.out.step h; have hyy := cell_step HY.out h; obtain ⟨q1, q2, q3, q4, q5, q6⟩ := id hq
      intro K Q hK
      simp only [putE, updAll, Act.put, List.setIfInBounds_toArray, List.set_cons_zero, List.set_cons_succ, List.set_nil] at hK ⊢
      go_wp2_with (go_at_call 59; refine (CY.out _ hq.s0 hq.s1).mono ?_; rintro e w9 ⟨rfl, hb9⟩)
      all_goals (first | exact hK _ (by first | exact h | exact bStep h (by first | assumption | (repeat' (first | exact Below.refl _ _ | apply bDrewN | apply bDrew)))) | exact (by first | exact h | exact bStep h (by first | assumption | (repeat' (first | exact Below.refl _ _ | apply bDrewN | apply bDrew)))))
  case tail =>
    intro vsE W hlv h
    obtain rfl := len_nil hlv
    replace h : Below w.heap.size w W := h
    have HST := Lib.hid h
    refine wpOp_plain rfl rfl ?_
    simp only [putE, updAll, Act.put, List.setIfInBounds_toArray, List.set_cons_zero, List.set_cons_succ, List.set_nil]
    go_wp2_with fail
    go_ret
    exact ⟨rfl, (by repeat' (first | exact Below.refl _ _ | assumption | apply bDrewN | apply bDrew | apply bAlloc | (refine bSet ?_ ?_ _) | (refine bStep ?_ (by assumption)) | omega | (simp <;> omega)))⟩
end Go.Proofs.Ytngnehlmbipabaa
