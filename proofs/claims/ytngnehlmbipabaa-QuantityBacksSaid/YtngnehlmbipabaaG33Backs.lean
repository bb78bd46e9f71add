/-
  Widest of both sides; the reference's Halve.
-/
import Derived.Test.YtngnehlmbipabaaG32Backs
import Derived.Test.YtngnehlmbipabaaG12Backs
set_option linter.unusedSimpArgs false
set_option linter.unusedVariables false
namespace Go.Proofs.Ytngnehlmbipabaa
open Go.RowKit
def widW (l : List (Int × Int)) (k : Nat) : Int := (l.getD k (0, 0)).2 - (l.getD k (0, 0)).1
def bestW (l : List (Int × Int)) : Nat → Nat
  | 0 => 0
  | k + 1 => if widW l (bestW l k) < widW l k then k else bestW l k
theorem bestW_lt (l : List (Int × Int)) : ∀ k, bestW l k ≤ k - 1
  | 0 => Nat.le_refl _
  | k + 1 => by
    have := bestW_lt l k
    unfold bestW
    split <;> omega
theorem bestW_one (l : List (Int × Int)) : bestW l 1 = 0 := by simp [bestW]
def widestS (l : List (Int × Int)) : Int × Int := if checkB l ≠ 0 then (0, checkB l) else if l = [] then (0, 5) else (((bestW l l.length : Nat) : Int), 0)
set_option maxHeartbeats 4000000 in
set_option maxRecDepth 20000 in
theorem Widest_row (v : Value) (l : List (Int × Int)) (w : World) (hl : l.length ≤ 1000000) (hv : SpRow v l w) :
    Calls Try.prog 30 #[v] w fun e w' => e = .returned (.tuple #[.int .i64 (widestS l).1, .int .i64 (widestS l).2]) ∧ Below w.heap.size w w' := by
  have C := Lib.hid (fun w h => CheckBox_row v l w (by omega) h)
  have HV := Lib.hid hv
  obtain ⟨a, ca, rfl, hA⟩ := hv
  by_cases h0 : checkB l = 0
  · by_cases hn : l = []
    · have hr : widestS l = (0, 5) := by unfold widestS; rw [if_neg (fun h => h h0), if_pos hn]
      rw [hr]
      rw [h0] at C
      subst hn
      clear hr hA h0
      go_enter Try.func30, Try.ntmps30
      go_wp2_with (go_at_call 19; refine (C.out _ HV.out).mono ?_; rintro e w1 ⟨rfl, hb1⟩)
      exact bodyPost_ret (v := .tuple #[.int .i64 0, .int .i64 5]) (by simp only [results, Try.results30]; go_simp) rfl ⟨rfl, (by repeat' (first | exact Below.refl _ _ | assumption | apply bDrewN | apply bDrew | apply bAlloc | (refine bSet ?_ ?_ _) | (refine bStep ?_ (by assumption)) | omega | (simp <;> omega)))⟩
    · have hr : widestS l = (((bestW l l.length : Nat) : Int), 0) := by unfold widestS; rw [if_neg (fun h => h h0), if_neg hn]
      obtain ⟨h8, hok⟩ := checkB_ok.1 h0
      have hok' := Lib.hid (all_ok.1 hok)
      rw [h0] at C
      have hp : 0 < l.length := List.length_pos_iff.2 hn
      have hp' : ¬ (l.length : Int) = 0 := by omega
      obtain ⟨b, o, rfl, hc⟩ := hA hn
      have HC := Lib.hid hc
      have HR := Lib.hid hr
      have HB := Lib.hid (bestW_lt l)
      have HS := Lib.hid (fun k => show bestW l (k + 1) = if widW l (bestW l k) < widW l k then k else bestW l k from rfl)
      have HD := Lib.hid (fun k => show widW l k = (l.getD k (0, 0)).2 - (l.getD k (0, 0)).1 from rfl)
      have H1 := Lib.hid (bestW_one l)
      have H0 := Lib.hid (show bestW l 0 = 0 from rfl)
      generalize bestW l = BW at *
      generalize widW l = WD at *
      generalize widestS l = R at *
      clear hr hc hok h0 hl
      go_enter Try.func30, Try.ntmps30
      go_wp2_with (go_at_call 19; refine (C.out _ HV.out).mono ?_; rintro e w1 ⟨rfl, hb1⟩)
      go_loopw [18, 5] (fun i b wr => ∃ k : Nat, 0 ≤ k ∧ k ≤ l.length ∧ i = .int .i64 k ∧ b = .int .i64 (BW k : Nat) ∧ Hid (Below w.heap.size w wr)) (fun i _ _ => l.length - (intOf i).toNat)
      case atStart => exact ⟨0, by omega, by omega, rfl, by rw [H0.out]; rfl, hb1⟩
      case round =>
        obtain ⟨k, hk0, hk, rfl, rfl, HW⟩ := hrel
        have hb := HW.out
        by_cases hlt : k < l.length
        · have hbk := HB.out k
          have q12 := (HC.out.step HW.out).2 k hlt
          have r12 := (HC.out.step HW.out).2 (BW k) (by omega)
          have lu := (HC.out.step HW.out).1
          have bx := okS_bd (hok'.out k hlt)
          have by_ := okS_bd (hok'.out (BW k) (by omega))
          have hS := HS.out k
          rw [HD.out k, HD.out (BW k)] at hS
          have hlt2 : (k : Int) < l.length := by omega
          have hlt3 : ((BW k : Nat) : Int) < l.length := by omega
          have hs4 : (0 : Int) ≤ ((BW k : Nat) : Int) := by omega
          have hs5 : (0 : Int) ≤ (k : Int) := by omega
          generalize l.getD k (0, 0) = x at *
          generalize l.getD (BW k) (0, 0) = y at *
          obtain ⟨x1, x2⟩ := x
          obtain ⟨y1, y2⟩ := y
          obtain ⟨q1, q2⟩ := q12
          obtain ⟨p1, p2⟩ := r12
          dsimp only at *
          obtain ⟨bx1, bx2, bx3⟩ := bx
          obtain ⟨by1, by2, by3⟩ := by_
          have a1 : IntKind.i64.wrap (x2 - x1) = x2 - x1 := Go.IntWalk.i64_in _ ⟨by omega, by omega⟩
          have a2 : IntKind.i64.wrap (y2 - y1) = y2 - y1 := Go.IntWalk.i64_in _ ⟨by omega, by omega⟩
          have HS2 := Lib.hid hS
          clear HC hok' HS HD hS hbk
          by_cases hw : y2 - y1 < x2 - x1
          · have hS3 := HS2.out
            rw [if_pos hw] at hS3
            have HS3 := Lib.hid hS3
            clear hS3 HS2
            go_wp2_with fail
            go_quiet (fail)
            go_wp2_with fail
            go_roundw
            case rel => exact ⟨k + 1, by omega, by omega, by push_cast; rfl, by rw [HS3.out], (by repeat' (first | exact Below.refl _ _ | assumption | apply bDrewN | apply bDrew | apply bAlloc | (refine bSet ?_ ?_ _) | (refine bStep ?_ (by assumption)) | omega | (simp <;> omega)))⟩
            case measure => (simp [intOf]; omega)
          · have hS3 := HS2.out
            rw [if_neg hw] at hS3
            have HS3 := Lib.hid hS3
            have hd : decide (y2 - y1 < x2 - x1) = false := by simpa using hw
            clear hS3 HS2 hw
            go_wp2_with fail
            go_quiet (fail)
            go_wp2_with fail
            go_roundw
            case rel => exact ⟨k + 1, by omega, by omega, by push_cast; rfl, by rw [HS3.out], (by repeat' (first | exact Below.refl _ _ | assumption | apply bDrewN | apply bDrew | apply bAlloc | (refine bSet ?_ ?_ _) | (refine bStep ?_ (by assumption)) | omega | (simp <;> omega)))⟩
            case measure => (simp [intOf]; omega)
        · obtain rfl : k = l.length := by omega
          have hR := HR.out
          subst hR
          have hle : ¬ ((l.length : Nat) : Int) < l.length := by omega
          clear HS HD HC HB HR hok'
          go_wp2_with fail
          exact bodyPost_ret (v := .tuple #[.int .i64 (BW l.length : Nat), .int .i64 0]) (by simp only [results, Try.results30]; go_simp) rfl ⟨rfl, (by repeat' (first | exact Below.refl _ _ | assumption | apply bDrewN | apply bDrew | apply bAlloc | (refine bSet ?_ ?_ _) | (refine bStep ?_ (by assumption)) | omega | (simp <;> omega)))⟩
  · have hr : widestS l = (0, checkB l) := if_pos h0
    rw [hr]
    generalize checkB l = z at *
    clear hr hA
    go_enter Try.func30, Try.ntmps30
    go_wp2_with (go_at_call 19; refine (C.out _ HV.out).mono ?_; rintro e w1 ⟨rfl, hb1⟩)
    exact bodyPost_ret (v := .tuple #[.int .i64 0, .int .i64 z]) (by simp only [results, Try.results30]; go_simp) rfl ⟨rfl, (by repeat' (first | exact Below.refl _ _ | assumption | apply bDrewN | apply bDrew | apply bAlloc | (refine bSet ?_ ?_ _) | (refine bStep ?_ (by assumption)) | omega | (simp <;> omega)))⟩

set_option maxHeartbeats 4000000 in
set_option maxRecDepth 20000 in
theorem RWidest_row (v : Value) (l : List (Int × Int)) (w : World) (hl : l.length ≤ 1000000) (hv : SpRow v l w) :
    Calls Try.prog 31 #[v] w fun e w' => e = .returned (.tuple #[.int .i64 (widestS l).1, .int .i64 (widestS l).2]) ∧ Below w.heap.size w w' := by
  have C := Lib.hid (fun w h => RCheckBox_row v l w (by omega) h)
  have HV := Lib.hid hv
  obtain ⟨a, ca, rfl, hA⟩ := hv
  by_cases h0 : checkB l = 0
  · by_cases hn : l = []
    · have hr : widestS l = (0, 5) := by unfold widestS; rw [if_neg (fun h => h h0), if_pos hn]
      rw [hr]
      rw [h0] at C
      subst hn
      clear hr hA h0
      go_enter Try.func31, Try.ntmps31
      go_wp2_with (go_at_call 20; refine (C.out _ HV.out).mono ?_; rintro e w1 ⟨rfl, hb1⟩)
      exact bodyPost_ret (v := .tuple #[.int .i64 0, .int .i64 5]) (by simp only [results, Try.results31]; go_simp) rfl ⟨rfl, (by repeat' (first | exact Below.refl _ _ | assumption | apply bDrewN | apply bDrew | apply bAlloc | (refine bSet ?_ ?_ _) | (refine bStep ?_ (by assumption)) | omega | (simp <;> omega)))⟩
    · have hr : widestS l = (((bestW l l.length : Nat) : Int), 0) := by unfold widestS; rw [if_neg (fun h => h h0), if_neg hn]
      obtain ⟨h8, hok⟩ := checkB_ok.1 h0
      have hok' := Lib.hid (all_ok.1 hok)
      rw [h0] at C
      have hp : 0 < l.length := List.length_pos_iff.2 hn
      have hp' : ¬ (l.length : Int) = 0 := by omega
      obtain ⟨b, o, rfl, hc⟩ := hA hn
      have HC := Lib.hid hc
      have HR := Lib.hid hr
      have HB := Lib.hid (bestW_lt l)
      have HS := Lib.hid (fun k => show bestW l (k + 1) = if widW l (bestW l k) < widW l k then k else bestW l k from rfl)
      have HD := Lib.hid (fun k => show widW l k = (l.getD k (0, 0)).2 - (l.getD k (0, 0)).1 from rfl)
      have H1 := Lib.hid (bestW_one l)
      have H0 := Lib.hid (show bestW l 0 = 0 from rfl)
      generalize bestW l = BW at *
      generalize widW l = WD at *
      generalize widestS l = R at *
      clear hr hc hok h0 hl
      go_enter Try.func31, Try.ntmps31
      go_wp2_with (go_at_call 20; refine (C.out _ HV.out).mono ?_; rintro e w1 ⟨rfl, hb1⟩)
      go_loopw [6, 5] (fun i b wr => ∃ k : Nat, 1 ≤ k ∧ k ≤ l.length ∧ i = .int .i64 k ∧ b = .int .i64 (BW k : Nat) ∧ Hid (Below w.heap.size w wr)) (fun i _ _ => l.length - (intOf i).toNat)
      case atStart => exact ⟨1, by omega, by omega, rfl, by rw [H1.out]; rfl, hb1⟩
      case round =>
        obtain ⟨k, hk0, hk, rfl, rfl, HW⟩ := hrel
        have hb := HW.out
        by_cases hlt : k < l.length
        · have hbk := HB.out k
          have q12 := (HC.out.step HW.out).2 k hlt
          have r12 := (HC.out.step HW.out).2 (BW k) (by omega)
          have lu := (HC.out.step HW.out).1
          have bx := okS_bd (hok'.out k hlt)
          have by_ := okS_bd (hok'.out (BW k) (by omega))
          have hS := HS.out k
          rw [HD.out k, HD.out (BW k)] at hS
          have hlt2 : (k : Int) < l.length := by omega
          have hlt3 : ((BW k : Nat) : Int) < l.length := by omega
          have hs4 : (0 : Int) ≤ ((BW k : Nat) : Int) := by omega
          have hs5 : (0 : Int) ≤ (k : Int) := by omega
          generalize l.getD k (0, 0) = x at *
          generalize l.getD (BW k) (0, 0) = y at *
          obtain ⟨x1, x2⟩ := x
          obtain ⟨y1, y2⟩ := y
          obtain ⟨q1, q2⟩ := q12
          obtain ⟨p1, p2⟩ := r12
          dsimp only at *
          obtain ⟨bx1, bx2, bx3⟩ := bx
          obtain ⟨by1, by2, by3⟩ := by_
          have a1 : IntKind.i64.wrap (x2 - x1) = x2 - x1 := Go.IntWalk.i64_in _ ⟨by omega, by omega⟩
          have a2 : IntKind.i64.wrap (y2 - y1) = y2 - y1 := Go.IntWalk.i64_in _ ⟨by omega, by omega⟩
          have HS2 := Lib.hid hS
          clear HC hok' HS HD hS hbk
          by_cases hw : y2 - y1 < x2 - x1
          · have hS3 := HS2.out
            rw [if_pos hw] at hS3
            have HS3 := Lib.hid hS3
            clear hS3 HS2
            go_wp2_with fail
            go_quiet (fail)
            go_wp2_with fail
            go_roundw
            case rel => exact ⟨k + 1, by omega, by omega, by push_cast; rfl, by rw [HS3.out], (by repeat' (first | exact Below.refl _ _ | assumption | apply bDrewN | apply bDrew | apply bAlloc | (refine bSet ?_ ?_ _) | (refine bStep ?_ (by assumption)) | omega | (simp <;> omega)))⟩
            case measure => (simp [intOf]; omega)
          · have hS3 := HS2.out
            rw [if_neg hw] at hS3
            have HS3 := Lib.hid hS3
            have hd : decide (y2 - y1 < x2 - x1) = false := by simpa using hw
            clear hS3 HS2 hw
            go_wp2_with fail
            go_quiet (fail)
            go_wp2_with fail
            go_roundw
            case rel => exact ⟨k + 1, by omega, by omega, by push_cast; rfl, by rw [HS3.out], (by repeat' (first | exact Below.refl _ _ | assumption | apply bDrewN | apply bDrew | apply bAlloc | (refine bSet ?_ ?_ _) | (refine bStep ?_ (by assumption)) | omega | (simp <;> omega)))⟩
            case measure => (simp [intOf]; omega)
        · obtain rfl : k = l.length := by omega
          have hR := HR.out
          subst hR
          have hle : ¬ ((l.length : Nat) : Int) < l.length := by omega
          clear HS HD HC HB HR hok'
          go_wp2_with fail
          exact bodyPost_ret (v := .tuple #[.int .i64 (BW l.length : Nat), .int .i64 0]) (by simp only [results, Try.results31]; go_simp) rfl ⟨rfl, (by repeat' (first | exact Below.refl _ _ | assumption | apply bDrewN | apply bDrew | apply bAlloc | (refine bSet ?_ ?_ _) | (refine bStep ?_ (by assumption)) | omega | (simp <;> omega)))⟩
  · have hr : widestS l = (0, checkB l) := if_pos h0
    rw [hr]
    generalize checkB l = z at *
    clear hr hA
    go_enter Try.func31, Try.ntmps31
    go_wp2_with (go_at_call 20; refine (C.out _ HV.out).mono ?_; rintro e w1 ⟨rfl, hb1⟩)
    exact bodyPost_ret (v := .tuple #[.int .i64 0, .int .i64 z]) (by simp only [results, Try.results31]; go_simp) rfl ⟨rfl, (by repeat' (first | exact Below.refl _ _ | assumption | apply bDrewN | apply bDrew | apply bAlloc | (refine bSet ?_ ?_ _) | (refine bStep ?_ (by assumption)) | omega | (simp <;> omega)))⟩

end Go.Proofs.Ytngnehlmbipabaa

/-
  The reference's Halve.
-/
set_option linter.unusedSimpArgs false
set_option linter.unusedVariables false
namespace Go.Proofs.Ytngnehlmbipabaa
open Go.RowKit
theorem run_app_copyS (w : World) (v : Value) (B : Nat) (rs : List (Int × Int)) (hown : SpOwn w B v rs) (src : Option Addr) (xs : List (Int × Int)) (c : Nat) (hsrc : SpAt src xs w) (hl : rs.length + xs.length ≤ 1000000) (hB : B ≤ w.heap.size) (ty : TypeId) :
    ∃ v' w', (Builtin.append_ #[47, 47] ty #[v, .slice src xs.length c]).run Try.prog w = .ok v' w' ∧ SpOwn w' B v' (rs ++ xs) ∧ w.grownBy w' v.ownBlock ∧ (v'.ownBlock = v.ownBlock ∨ v'.ownBlock = some w.heap.size) := by
  obtain ⟨j0, hj, hy0, hy1, hy2⟩ := info_parts infoSp
  by_cases hn : xs = []
  · subst hn
    refine ⟨v, w, ?_, by simpa using hown, ⟨rfl, rfl, rfl, Nat.le_refl _, fun _ _ _ => rfl⟩, Or.inl rfl⟩
    rcases hown.2 with ⟨rfl, -⟩ | ⟨g, cap, cur, rfl, -, -, h4, -⟩
    · exact run_append_zeroZ w _ _ _ _ Try.underlying47 hj _ _ _ (Nat.le_refl _) _ _
    · exact run_append_zeroZ w _ _ _ _ Try.underlying47 hj _ _ _ h4 _ _
  · obtain ⟨b, o, rfl, hc⟩ := hsrc hn
    obtain ⟨v', w', h1, h2, h3, -, h5⟩ := run_append_own_at (P := Try.prog) w B 47 ty 40 j0 (.agg #[.int .i64 0, .int .i64 0]) 2 16 Try.underlying47 hj hy0 hy1 hy2 rfl (by decide) v rs.length (flatS rs) hown ⟨b, o, none⟩ xs.length c (flatS xs) (flatS_len xs)
      (flatS_cells hc) flatS_one (by unfold maxLen; omega) (by omega) hB
    refine ⟨v', w', h1, ?_, h3, h5⟩
    unfold SpOwn
    rw [List.length_append, flatS_append]
    exact h2
theorem wpList_app_copyS {ops : Array Oper} {rest : List Oper} (w : World) {o : Oper} {a : Act} {Q : Exit → Act → World → Prop} (hgd : o.guard = none) (s x : Operand) (ho : o.op = .call { callee := .builtin .append, args := #[s, x], argTypes := #[47, 47] })
    (v : Value) (hs : a.eval s = v) (B : Nat) (rs : List (Int × Int)) (hown : SpOwn w B v rs) (src : Option Addr) (xs : List (Int × Int)) (c : Nat) (hx : a.eval x = .slice src xs.length c) (hsrc : SpAt src xs w) (hl : rs.length + xs.length ≤ 1000000) (hB : B ≤ w.heap.size)
    (h : ∀ v' w', SpOwn w' B v' (rs ++ xs) → w.grownBy w' v.ownBlock → (v'.ownBlock = v.ownBlock ∨ v'.ownBlock = some w.heap.size) → wpList Try.prog ops Q rest (a.put o.dst v') w') : wpList Try.prog ops Q (o :: rest) a w :=
  wpList_plain hgd fun _ hK => by
    obtain ⟨v', w', hr, h2, h3, h5⟩ := run_app_copyS w v B rs hown src xs c hsrc hl hB o.type
    unfold Oper.wp execOp
    simp only [ho, resolve, invoke, builtin, Sem.run_bind, Sem.run_pure, Result.andThen_ok, List.map_toArray, List.map_cons, List.map_nil, hs, hx, hr]
    exact hK _ _ (h v' w' h2 h3 h5)
theorem own_newS {W : World} {B : Nat} (hB : B ≤ W.heap.size) : SpOwn (W.alloc (.cells #[] 40)) B (.slice (some ⟨W.heap.size, 0, none⟩) 0 0) [] :=
  ⟨rfl, Or.inr ⟨_, _, _, rfl, hB, blk_new W _, Nat.le_refl _, by decide, rfl, rfl⟩⟩
set_option maxHeartbeats 2000000 in
set_option maxRecDepth 20000 in
theorem RHalve_row (v : Value) (l : List (Int × Int)) (i : Int) (w : World) (hl : l.length ≤ 1000000) (hi1 : -9223372036854775808 ≤ i) (hi2 : i ≤ 9223372036854775807) (hv : SpRow v l w) :
    Calls Try.prog 33 #[v, .int .i64 i] w fun e w' => ∃ x y, e = .returned (.tuple #[x, y, .int .i64 (halveS l i).2]) ∧ SpRow x (halveS l i).1.1 w' ∧ SpRow y (halveS l i).1.2 w' ∧ Below w.heap.size w w' := by
  have V := Lib.hid (fun w h => RCheckBox_row v l w (by omega) h)
  have HV := Lib.hid hv
  obtain ⟨a, c, rfl, hA⟩ := hv
  by_cases h1 : checkB l = 0
  · rw [h1] at V
    by_cases h2 : i < 0
    · rw [show halveS l i = (([], []), 3) from by unfold halveS; rw [if_neg (by simp [h1]), if_pos (Or.inl h2)]]
      clear h1 hA
      go_enter Try.func33, Try.ntmps33
      go_wp2_with (go_at_call 20; refine (V.out _ HV.out).mono ?_; rintro e w1 ⟨rfl, hb1⟩)
      exact bodyPost_ret (v := .tuple #[.slice none 0 0, .slice none 0 0, .int .i64 3]) (by simp only [results, Try.results33]; go_simp) rfl ⟨_, _, rfl, SpRow.nil, SpRow.nil, (by repeat' (first | exact Below.refl _ _ | assumption | apply bDrewN | apply bDrew | apply bAlloc | (refine bSet ?_ ?_ _) | (refine bStep ?_ (by assumption)) | omega | (simp <;> omega)))⟩
    · by_cases h3 : (l.length : Int) ≤ i
      · rw [show halveS l i = (([], []), 3) from by unfold halveS; rw [if_neg (by simp [h1]), if_pos (Or.inr h3)]]
        clear h1 hA
        go_enter Try.func33, Try.ntmps33
        go_wp2_with (go_at_call 20; refine (V.out _ HV.out).mono ?_; rintro e w1 ⟨rfl, hb1⟩)
        exact bodyPost_ret (v := .tuple #[.slice none 0 0, .slice none 0 0, .int .i64 3]) (by simp only [results, Try.results33]; go_simp) rfl ⟨_, _, rfl, SpRow.nil, SpRow.nil, (by repeat' (first | exact Below.refl _ _ | assumption | apply bDrewN | apply bDrew | apply bAlloc | (refine bSet ?_ ?_ _) | (refine bStep ?_ (by assumption)) | omega | (simp <;> omega)))⟩
      · obtain ⟨k, rfl⟩ : ∃ k : Nat, i = (k : Int) := ⟨i.toNat, by omega⟩
        have hk : k < l.length := by omega
        have hs := h3
        have hu : halveS l k = if (l.getD k (0, 0)).1 = (l.getD k (0, 0)).2 then (([], []), 5) else ((l.set k ((l.getD k (0, 0)).1, ((l.getD k (0, 0)).1 + (l.getD k (0, 0)).2) / 2), l.set k (((l.getD k (0, 0)).1 + (l.getD k (0, 0)).2) / 2 + 1, (l.getD k (0, 0)).2)), 0) := by
          unfold halveS
          rw [if_neg (by simp [h1]), if_neg (by omega), Int.toNat_natCast]
        rw [hu]
        have hok : okS (l.getD k (0, 0)) = true := by
          have := (checkB_ok.1 h1).2
          rw [List.all_eq_true] at this
          rw [List.getD_eq_getElem?_getD, List.getElem?_eq_getElem hk]
          exact this _ (List.getElem_mem hk)
        have hne : l ≠ [] := fun e => by rw [e] at hk; simp at hk
        obtain ⟨b0, o0, rfl, hc⟩ := hA hne
        have HA := Lib.hid hA
        have M := Lib.hid (fun w => RMiddle_any (l.getD k (0, 0)) w)
        rw [middleS_yes hok] at M
        have bd := okS_bd hok
        have q := hc.2 k hk
        have HC := Lib.hid hc
        have SH := Lib.hid (fun (W : World) (g : Nat) (y : Int) (h : SpBlk W g l) => h.setHi (i := k) (y := y) hk)
        have SL := Lib.hid (fun (W : World) (g : Nat) (x : Int) (h : SpBlk W g l) => h.setLo (i := k) (x := x) hk)
        have CE := Lib.hid (fun (W : World) (g : Nat) (h : SpBlk W g l) => h.cells hk)
        have LN : Hid (∀ s : Int × Int, (l.set k s).length = l.length) := fun s => List.length_set
        generalize hx : l.getD k (0, 0) = s at *
        obtain ⟨x1, x2⟩ := s
        dsimp only at *
        obtain ⟨q1, q2⟩ := q
        obtain ⟨bd1, bd2, bd3⟩ := bd
        clear h1 h2 h3 hs hu hok hx hA hc
        generalize hm : (x1 + x2) / 2 = m at *
        have m1 : -1099511627776 ≤ m := by omega
        have m2 : m ≤ 1099511627776 := by omega
        clear hm
        by_cases he : x1 = x2
        · rw [if_pos he]
          subst he
          go_enter Try.func33, Try.ntmps33
          go_wp2_with (first | (go_at_call 20; refine (V.out _ HV.out).mono ?_; rintro e w1 ⟨rfl, hb1⟩; have g1 := cell_step q1 hb1; have g2 := cell_step q2 hb1; clear q1 q2))
          go_quiet (fail)
          go_wp2_with fail
          exact bodyPost_ret (v := .tuple #[.slice none 0 0, .slice none 0 0, .int .i64 5]) (by simp only [results, Try.results33]; go_simp) rfl ⟨_, _, rfl, SpRow.nil, SpRow.nil, (by repeat' (first | exact Below.refl _ _ | assumption | apply bDrewN | apply bDrew | apply bAlloc | (refine bSet ?_ ?_ _) | (refine bStep ?_ (by assumption)) | omega | (simp <;> omega)))⟩
        · rw [if_neg he]
          go_enter Try.func33, Try.ntmps33
          go_wp2_with (first | (go_at_call 20; refine (V.out _ HV.out).mono ?_; rintro e w1 ⟨rfl, hb1⟩; have g1 := cell_step q1 hb1; have g2 := cell_step q2 hb1; clear q1 q2))
          go_quiet (fail)
          have HN := Lib.hid hne
          go_upto_region 10 with (first | (go_at_call 74; refine (M.out _).mono ?_; rintro e w2 ⟨rfl, hb2⟩) | (at_builtin; refine wpList_app_copyS _ rfl (.tmp 44) (.tmp 45) rfl _ rfl w2.heap.size [] (own_newS (Nat.le_refl _)) (some ⟨b0, o0, none⟩) l c rfl (HA.out.step (by repeat' (first | exact Below.refl _ _ | assumption | apply bDrewN | apply bDrew | apply bAlloc | (refine bSet ?_ ?_ _) | (refine bStep ?_ (by assumption)) | omega | (simp <;> omega)))) (by simp; omega) (by simp) ?_; intro v' w3 hO hG hat; simp only [List.nil_append] at hO; have hb3 : Below w2.heap.size w2 w3 := (bAlZ (W := w2)).grown hG (by simp) (by intro q e; cases e; exact Nat.le_refl _); obtain ⟨gx, cx, rfl, hgx, kx⟩ := SpOwn.blk hO HN.out; clear hG hat hO))
          go_upto_region 11 with (at_builtin; refine wpList_app_copyS _ rfl (.tmp 47) (.tmp 48) rfl _ rfl w3.heap.size [] (own_newS (Nat.le_refl _)) (some ⟨b0, o0, none⟩) l c rfl (HA.out.step (by repeat' (first | exact Below.refl _ _ | assumption | apply bDrewN | apply bDrew | apply bAlloc | (refine bSet ?_ ?_ _) | (refine bStep ?_ (by assumption)) | omega | (simp <;> omega)))) (by simp; omega) (by simp) ?_; intro v' w4 hO hG hat; simp only [List.nil_append] at hO; have hb4 : Below w3.heap.size w3 w4 := (bAlZ (W := w3)).grown hG (by simp) (by intro q e; cases e; exact Nat.le_refl _); obtain ⟨gy, cy, rfl, hgy, ky⟩ := SpOwn.blk hO HN.out; clear hG hat hO)
          have lx : gx < w3.heap.size := cell_lt (CE.out _ _ kx).1
          have kx4 := kx.step hb4
          obtain ⟨c1, c2, c3, c4⟩ := CE.out _ _ kx4
          obtain ⟨c5, c6, c7, c8⟩ := CE.out _ _ ky
          have n1 : gx ≠ gy := by omega
          have n2 : gy ≠ gx := by omega
          have kB : Below w.heap.size w w4 := (by repeat' (first | exact Below.refl _ _ | assumption | apply bDrewN | apply bDrew | apply bAlloc | (refine bSet ?_ ?_ _) | (refine bStep ?_ (by assumption)) | omega | (simp <;> omega)))
          have g1 : w.heap.size ≤ gx := by have := hb1.size; have := hb2.size; have h4 := hgx; simp at *; omega
          have g2 : w.heap.size ≤ gy := by omega
          clear HV M CE hb1 hb2 hb3 hb4 hgx hgy
          have KX := Lib.hid kx4
          have KY := Lib.hid ky
          clear kx kx4 ky HC HA
          go_wp2_with fail
          exact bodyPost_ret (v := .tuple #[.slice (some ⟨gx, 0, none⟩) l.length cx, .slice (some ⟨gy, 0, none⟩) l.length cy, .int .i64 0]) (by simp only [results, Try.results33]; go_simp) rfl ⟨_, _, rfl, ⟨some ⟨gx, 0, none⟩, cx, by rw [LN.out], ((SH.out _ _ _ KX.out).far n1).at_⟩, ⟨some ⟨gy, 0, none⟩, cy, by rw [LN.out], (SL.out _ _ _ (KY.out.far n2)).at_⟩, bSet (bSet kB g1 _) g2 _⟩
  · rw [show halveS l i = (([], []), checkB l) from if_pos h1]
    generalize checkB l = z at *
    clear hA
    go_enter Try.func33, Try.ntmps33
    go_wp2_with (go_at_call 20; refine (V.out _ HV.out).mono ?_; rintro e w1 ⟨rfl, hb1⟩)
    exact bodyPost_ret (v := .tuple #[.slice none 0 0, .slice none 0 0, .int .i64 z]) (by simp only [results, Try.results33]; go_simp) rfl ⟨_, _, rfl, SpRow.nil, SpRow.nil, (by repeat' (first | exact Below.refl _ _ | assumption | apply bDrewN | apply bDrew | apply bAlloc | (refine bSet ?_ ?_ _) | (refine bStep ?_ (by assumption)) | omega | (simp <;> omega)))⟩
end Go.Proofs.Ytngnehlmbipabaa
