/-
  The reference's BoxMeet and BoxHull.
-/
import Derived.Test.YtngnehlmbipabaaG31Backs
import Derived.Test.YtngnehlmbipabaaG12Backs
import Derived.Test.YtngnehlmbipabaaG25Backs
import Derived.Test.YtngnehlmbipabaaG21Backs
import Derived.Test.YtngnehlmbipabaaG18Backs
set_option linter.unusedSimpArgs false
set_option linter.unusedVariables false
namespace Go.Proofs.Ytngnehlmbipabaa
open Go.RowKit
/-- A box that a region makes, and fills with a span. -/
structure BxQ (w0 : World) (z1 z2 : Int) (b d : Bool) (s : Value) (W : World) : Prop where
  bel : Below w0.heap.size w0 W
  bx : b = true → ∃ r, s = .pointer (some ⟨r, 0, none⟩) ∧ w0.heap.size ≤ r ∧ W.heap[r]? = some (.cells (if d = true then #[.int .i64 z1, .int .i64 z2] else #[.int .i64 0, .int .i64 0]) 40)
  st : d = true → b = true
section
variable {w0 W w2 : World} {z1 z2 : Int} {b d : Bool} {s : Value}
theorem BxQ.step (h : BxQ w0 z1 z2 b d s W) (hb : Below W.heap.size W w2) : BxQ w0 z1 z2 b d s w2 :=
  ⟨bStep h.bel hb, fun e => by obtain ⟨r, q1, q2, q3⟩ := h.bx e; exact ⟨r, q1, q2, blk_step q3 hb⟩, h.st⟩
theorem BxQ.mk0' (h : BxQ w0 z1 z2 false d s W) : BxQ w0 z1 z2 true d (.pointer (some ⟨W.heap.size, 0, none⟩)) (W.alloc (.cells #[.int .i64 0, .int .i64 0] 40)) := by
  have hd : d = false := by
    cases d with
    | false => rfl
    | true => exact absurd (h.st rfl) (by decide)
  subst hd
  exact ⟨bAlloc h.bel _, fun _ => ⟨_, rfl, h.bel.size, by simpa using blk_new W _⟩, fun e => by cases e⟩
theorem BxQ.put {r : Nat} (h : BxQ w0 z1 z2 true false (.pointer (some ⟨r, 0, none⟩)) W) : BxQ w0 z1 z2 true true (.pointer (some ⟨r, 0, none⟩)) ((W.setCell ⟨r, 0, none⟩ (.int .i64 z1)).setCell ⟨r, 1, none⟩ (.int .i64 z2)) := by
  obtain ⟨r', q1, q2, q3⟩ := h.bx rfl
  cases q1
  exact ⟨(h.bel.setCell q2 _).setCell q2 _, fun _ => ⟨_, rfl, q2, (blk_set (blk_set q3)).trans rfl⟩, fun _ => rfl⟩
theorem BxQ.open_ (h : BxQ w0 z1 z2 true d s W) : ∃ r, s = .pointer (some ⟨r, 0, none⟩) := by
  obtain ⟨r, q1, -, -⟩ := h.bx rfl
  exact ⟨r, q1⟩
end
theorem pairs_boxes (g : SpF) (l m : List (Int × Int)) : pairsS g l m = if boxesS l m ≠ 0 then ([], boxesS l m) else if firstErr g l m = 0 then (outs g l m l.length, 0) else ([], firstErr g l m) := by
  unfold pairsS boxesS
  by_cases h1 : 8 < max l.length m.length
  · simp [h1]
  · rw [if_neg h1, if_neg h1]
    by_cases h2 : ¬ (l.all okS = true ∧ m.all okS = true)
    · rw [if_pos h2, if_pos h2]; simp
    · rw [if_neg h2, if_neg h2]
      by_cases h3 : l.length ≠ m.length
      · rw [if_pos h3, if_pos h3]; simp
      · rw [if_neg h3, if_neg h3]; simp
theorem boxes_good {l m : List (Int × Int)} (h : boxesS l m = 0) : l.length ≤ 8 ∧ m.length = l.length ∧ l.all okS = true ∧ m.all okS = true := by
  unfold boxesS at h
  split at h
  · exact absurd h (by decide)
  · split at h
    · exact absurd h (by decide)
    · split at h
      · exact absurd h (by decide)
      · rename_i h1 h2 h3
        have := Classical.not_not.1 h2
        exact ⟨by omega, by omega, this.1, this.2⟩
theorem hull_noerr {l m : List (Int × Int)} (h : boxesS l m = 0) : ∀ j, j < l.length → (gAt hullS l m j).2 = 0 := by
  obtain ⟨-, h2, h3, h4⟩ := boxes_good h
  intro j hj
  unfold gAt
  rw [hullS_yes (by rw [all_ok.1 h3 j hj, all_ok.1 h4 j (by omega)]; rfl)]
set_option maxHeartbeats 4000000 in
set_option maxRecDepth 20000 in
theorem RBoxmeet_row (v u : Value) (l m : List (Int × Int)) (w : World) (hl : l.length ≤ 1000000) (hm : m.length ≤ 1000000) (hv : SpRow v l w) (hu : SpRow u m w) :
    Calls Try.prog 26 #[v, u] w fun e w' => ∃ x, e = .returned (.tuple #[x, .int .i64 (pairsS meetS l m).2]) ∧ SpRow x (pairsS meetS l m).1 w' ∧ Below w.heap.size w w' := by
  have C := Lib.hid (fun w h1 h2 => Rboxes_row v u l m w hl hm h1 h2)
  have HV := Lib.hid hv
  have HU := Lib.hid hu
  obtain ⟨a, ca, rfl, hA⟩ := hv
  obtain ⟨b, cb, rfl, hB⟩ := hu
  have hp := pairs_boxes meetS l m
  by_cases h0 : boxesS l m = 0
  · rw [if_neg (fun h => h h0)] at hp
    obtain ⟨h8, hlm, hok1, hok2⟩ := boxes_good h0
    skip
    rw [h0] at C
    have H3 := Lib.hid hlm
    rw [hlm] at HU C ⊢
    have HA := Lib.hid hA
    have HB := Lib.hid hB
    have HG1 := Lib.hid (fun k (hk : k < l.length) h0 h1 => firstErr_at (g := meetS) (l := l) (m := m) (k := k) hk h0 h1)
    have HG2 := Lib.hid (fun h0 => firstErr_none (g := meetS) (l := l) (m := m) h0)
    have HP := Lib.hid hp
    have HS := Lib.hid (fun n => outs_succ meetS l m n)
    have HN := Lib.hid (fun n => outs_len meetS l m n)
    have HGk := Lib.hid (fun k => show gAt meetS l m k = meetS (l.getD k (0, 0)) (m.getD k (0, 0)) from rfl)
    generalize pairsS meetS l m = R at *
    generalize gAt meetS l m = G at *
    generalize outs meetS l m = OU at *
    generalize firstErr meetS l m = fe at *
    clear hA hB hp hlm h0 hok1 hok2 hl hm
    obtain ⟨i0, hi, hz0, hz1, hz2⟩ := info_parts infoSp
    go_enter Try.func26, Try.ntmps26
    go_wp2_with (go_at_call 68; refine (C.out _ HV.out HU.out).mono ?_; rintro e w1 ⟨rfl, hb1⟩)
    go_loopw [7, 8] (fun ov i wr => ∃ k : Nat, k ≤ l.length ∧ i = .int .i64 k ∧ Hid (SpOwn wr w.heap.size ov (OU k)) ∧ Hid (Below w.heap.size w wr) ∧ Hid (∀ j, j < k → (G j).2 = 0)) (fun _ i _ => l.length - (intOf i).toNat)
    case atStart =>
      refine ⟨0, by omega, rfl, ?_, Lib.hid hb1, fun j hj => by omega⟩
      have h9 := HN.out 0
      have : OU 0 = [] := List.length_eq_zero_iff.1 h9
      unfold Hid
      rw [this]
      exact SpOwn.nil
    case round =>
      obtain ⟨k, hk, rfl, HO, HW, HI⟩ := hrel
      have hb := HW.out
      by_cases hlt : k < l.length
      · have hlm : k < m.length := by rw [H3.out]; exact hlt
        obtain ⟨bu, ou, rfl, hc⟩ := (HA.out.step HW.out) (fun h => by rw [h] at hlt; simp at hlt)
        obtain ⟨bv, ov', rfl, hd⟩ := (HB.out.step HW.out) (fun h => by rw [h] at hlm; simp at hlm)
        have q12 := hc.2 k hlt
        have p12 := hd.2 k hlm
        have hGk := HGk.out k
        have lu := hc.1
        have lv := hd.1
        have hlt2 : (k : Int) < l.length := by omega
        have HI2 : Hid ((G k).2 = 0 → ∀ j, j < k + 1 → (G j).2 = 0) := by
          intro h j hj
          rcases Nat.lt_or_ge j k with h' | h'
          · exact HI.out j h'
          · obtain rfl : j = k := by omega
            exact h
        have HN2 : Hid ((G k).2 ≠ 0 → R = ([], (G k).2)) := fun h => by
          have e := HG1.out k hlt (fun j hj => HI.out j hj) h
          rw [HP.out, if_neg (by rw [e]; exact h), e]
        skip
        have HS2 := Lib.hid (HS.out k)
        have hLk := HN.out k
        clear hc hd HI HG1 HG2 HGk HS 
        generalize l.getD k (0, 0) = x at *
        generalize m.getD k (0, 0) = y at *
        obtain ⟨x1, x2⟩ := x
        obtain ⟨y1, y2⟩ := y
        obtain ⟨q1, q2⟩ := q12
        obtain ⟨p1, p2⟩ := p12
        have CX := fun W => RMeet_any (x1, x2) (y1, y2) W
        rw [← hGk] at CX
        have HL8 := Lib.hid (show (OU k).length ≤ 8 by rw [hLk]; omega)
        generalize hgk : G k = gk at *
        obtain ⟨⟨z1, z2⟩, er⟩ := gk
        dsimp only at q1 q2 p1 p2 CX HI2 HN2 HS2 
        have CZ := Lib.hid CX
        clear CX hgk hGk hLk HN
        skip
        go_upto_region 8 with fail
        refine region_all 15 8 43 [(12, 9), (13, 44)] [(none, []), (none, []), (none, []), (none, []), (none, []), (none, []), (none, []), (none, []), (none, []), (none, []), (none, []), (none, []), (some 0, []), (some 1, [0]), (none, [])] [(24, (.slice (some ⟨bu, ou, none⟩) l.length ca)), (25, (.int .i64 (k : Int))), (26, (.pointer (some ⟨bu, ou + k * 2, none⟩))), (27, (.agg #[.int .i64 x1, .int .i64 x2])), (28, (.slice (some ⟨bv, ov', none⟩) l.length cb)), (29, (.int .i64 (k : Int))), (30, (.pointer (some ⟨bv, ov' + k * 2, none⟩))), (31, (.agg #[.int .i64 y1, .int .i64 y2])), (32, (.tuple #[.agg #[.int .i64 z1, .int .i64 z2], .int .i64 er])), (23, (.tuple #[.agg #[.int .i64 z1, .int .i64 z2], .int .i64 er])), (33, (.agg #[.int .i64 z1, .int .i64 z2])), (34, (.int .i64 er)), (10, (.int .i64 er))] (fun bsE vsE W => BxQ wr z1 z2 (bsE.getD 0 false) (bsE.getD 1 false) (vsE.getD 0 undef) W) (by kernel_rfl) (by kernel_rfl) rfl rfl (by kernel_rfl) (by rfl) ?h0 ?each ?done
        case h0 =>
          intro vsE hlv
          obtain ⟨v0, vsE0, rfl, hlv0⟩ := len_one hlv
          obtain ⟨v1, vsE1, rfl, hlv1⟩ := len_one hlv0
          obtain rfl := len_nil hlv1
          exact ⟨(Below.refl _ _).drew, (fun e => by cases e), (fun e => by cases e)⟩
        case each =>
          simp only [AllE]
          refine ⟨?_, ?_, ?_, ?_, ?_, ?_, ?_, ?_, ?_, ?_, ?_, ?_, ?_, ?_, ?_, trivial⟩
          · refine ⟨24, (.slice (some ⟨bu, ou, none⟩) l.length ca), rfl, by kernel_rfl, ?_⟩
            intro bsE vsE W hlb hlv hnd h
            obtain ⟨b0, bsE0, rfl, hlb0⟩ := len_one hlb
            obtain ⟨v0, vsE0, rfl, hlv0⟩ := len_one hlv
            obtain ⟨b1, bsE1, rfl, hlb1⟩ := len_one hlb0
            obtain ⟨v1, vsE1, rfl, hlv1⟩ := len_one hlv0
            obtain rfl := len_nil hlb1
            obtain rfl := len_nil hlv1
            replace h : BxQ wr z1 z2 b0 b1 v0 W := h
            clear hnd
            have HST := Lib.hid h
            have g1 := cell_step q1 h.bel; have g2 := cell_step q2 h.bel; have g3 := cell_step p1 h.bel; have g4 := cell_step p2 h.bel; have gs := h.bel.size
            intro K Q hK
            simp only [putE, updAll, Act.put, List.setIfInBounds_toArray, List.set_cons_zero, List.set_cons_succ, List.set_nil] at hK ⊢
            go_wp2_with (fail)
            all_goals (first | exact hK _ (by first | exact h | exact h.step (by first | assumption | (repeat' (first | exact Below.refl _ _ | apply bDrewN | apply bDrew)))) | exact (by first | exact h | exact h.step (by first | assumption | (repeat' (first | exact Below.refl _ _ | apply bDrewN | apply bDrew)))))
          · refine ⟨25, (.int .i64 (k : Int)), rfl, by kernel_rfl, ?_⟩
            intro bsE vsE W hlb hlv hnd h
            obtain ⟨b0, bsE0, rfl, hlb0⟩ := len_one hlb
            obtain ⟨v0, vsE0, rfl, hlv0⟩ := len_one hlv
            obtain ⟨b1, bsE1, rfl, hlb1⟩ := len_one hlb0
            obtain ⟨v1, vsE1, rfl, hlv1⟩ := len_one hlv0
            obtain rfl := len_nil hlb1
            obtain rfl := len_nil hlv1
            replace h : BxQ wr z1 z2 b0 b1 v0 W := h
            clear hnd
            have HST := Lib.hid h
            have g1 := cell_step q1 h.bel; have g2 := cell_step q2 h.bel; have g3 := cell_step p1 h.bel; have g4 := cell_step p2 h.bel; have gs := h.bel.size
            intro K Q hK
            simp only [putE, updAll, Act.put, List.setIfInBounds_toArray, List.set_cons_zero, List.set_cons_succ, List.set_nil] at hK ⊢
            go_wp2_with (fail)
            all_goals (first | exact hK _ (by first | exact h | exact h.step (by first | assumption | (repeat' (first | exact Below.refl _ _ | apply bDrewN | apply bDrew)))) | exact (by first | exact h | exact h.step (by first | assumption | (repeat' (first | exact Below.refl _ _ | apply bDrewN | apply bDrew)))))
          · refine ⟨26, (.pointer (some ⟨bu, ou + k * 2, none⟩)), rfl, by kernel_rfl, ?_⟩
            intro bsE vsE W hlb hlv hnd h
            obtain ⟨b0, bsE0, rfl, hlb0⟩ := len_one hlb
            obtain ⟨v0, vsE0, rfl, hlv0⟩ := len_one hlv
            obtain ⟨b1, bsE1, rfl, hlb1⟩ := len_one hlb0
            obtain ⟨v1, vsE1, rfl, hlv1⟩ := len_one hlv0
            obtain rfl := len_nil hlb1
            obtain rfl := len_nil hlv1
            replace h : BxQ wr z1 z2 b0 b1 v0 W := h
            clear hnd
            have HST := Lib.hid h
            have g1 := cell_step q1 h.bel; have g2 := cell_step q2 h.bel; have g3 := cell_step p1 h.bel; have g4 := cell_step p2 h.bel; have gs := h.bel.size
            intro K Q hK
            simp only [putE, updAll, Act.put, List.setIfInBounds_toArray, List.set_cons_zero, List.set_cons_succ, List.set_nil] at hK ⊢
            go_wp2_with (fail)
            all_goals (first | exact hK _ (by first | exact h | exact h.step (by first | assumption | (repeat' (first | exact Below.refl _ _ | apply bDrewN | apply bDrew)))) | exact (by first | exact h | exact h.step (by first | assumption | (repeat' (first | exact Below.refl _ _ | apply bDrewN | apply bDrew)))))
          · refine ⟨27, (.agg #[.int .i64 x1, .int .i64 x2]), rfl, by kernel_rfl, ?_⟩
            intro bsE vsE W hlb hlv hnd h
            obtain ⟨b0, bsE0, rfl, hlb0⟩ := len_one hlb
            obtain ⟨v0, vsE0, rfl, hlv0⟩ := len_one hlv
            obtain ⟨b1, bsE1, rfl, hlb1⟩ := len_one hlb0
            obtain ⟨v1, vsE1, rfl, hlv1⟩ := len_one hlv0
            obtain rfl := len_nil hlb1
            obtain rfl := len_nil hlv1
            replace h : BxQ wr z1 z2 b0 b1 v0 W := h
            clear hnd
            have HST := Lib.hid h
            have g1 := cell_step q1 h.bel; have g2 := cell_step q2 h.bel; have g3 := cell_step p1 h.bel; have g4 := cell_step p2 h.bel; have gs := h.bel.size
            intro K Q hK
            simp only [putE, updAll, Act.put, List.setIfInBounds_toArray, List.set_cons_zero, List.set_cons_succ, List.set_nil] at hK ⊢
            go_wp2_with (fail)
            all_goals (first | exact hK _ (by first | exact h | exact h.step (by first | assumption | (repeat' (first | exact Below.refl _ _ | apply bDrewN | apply bDrew)))) | exact (by first | exact h | exact h.step (by first | assumption | (repeat' (first | exact Below.refl _ _ | apply bDrewN | apply bDrew)))))
          · refine ⟨28, (.slice (some ⟨bv, ov', none⟩) l.length cb), rfl, by kernel_rfl, ?_⟩
            intro bsE vsE W hlb hlv hnd h
            obtain ⟨b0, bsE0, rfl, hlb0⟩ := len_one hlb
            obtain ⟨v0, vsE0, rfl, hlv0⟩ := len_one hlv
            obtain ⟨b1, bsE1, rfl, hlb1⟩ := len_one hlb0
            obtain ⟨v1, vsE1, rfl, hlv1⟩ := len_one hlv0
            obtain rfl := len_nil hlb1
            obtain rfl := len_nil hlv1
            replace h : BxQ wr z1 z2 b0 b1 v0 W := h
            clear hnd
            have HST := Lib.hid h
            have g1 := cell_step q1 h.bel; have g2 := cell_step q2 h.bel; have g3 := cell_step p1 h.bel; have g4 := cell_step p2 h.bel; have gs := h.bel.size
            intro K Q hK
            simp only [putE, updAll, Act.put, List.setIfInBounds_toArray, List.set_cons_zero, List.set_cons_succ, List.set_nil] at hK ⊢
            go_wp2_with (fail)
            all_goals (first | exact hK _ (by first | exact h | exact h.step (by first | assumption | (repeat' (first | exact Below.refl _ _ | apply bDrewN | apply bDrew)))) | exact (by first | exact h | exact h.step (by first | assumption | (repeat' (first | exact Below.refl _ _ | apply bDrewN | apply bDrew)))))
          · refine ⟨29, (.int .i64 (k : Int)), rfl, by kernel_rfl, ?_⟩
            intro bsE vsE W hlb hlv hnd h
            obtain ⟨b0, bsE0, rfl, hlb0⟩ := len_one hlb
            obtain ⟨v0, vsE0, rfl, hlv0⟩ := len_one hlv
            obtain ⟨b1, bsE1, rfl, hlb1⟩ := len_one hlb0
            obtain ⟨v1, vsE1, rfl, hlv1⟩ := len_one hlv0
            obtain rfl := len_nil hlb1
            obtain rfl := len_nil hlv1
            replace h : BxQ wr z1 z2 b0 b1 v0 W := h
            clear hnd
            have HST := Lib.hid h
            have g1 := cell_step q1 h.bel; have g2 := cell_step q2 h.bel; have g3 := cell_step p1 h.bel; have g4 := cell_step p2 h.bel; have gs := h.bel.size
            intro K Q hK
            simp only [putE, updAll, Act.put, List.setIfInBounds_toArray, List.set_cons_zero, List.set_cons_succ, List.set_nil] at hK ⊢
            go_wp2_with (fail)
            all_goals (first | exact hK _ (by first | exact h | exact h.step (by first | assumption | (repeat' (first | exact Below.refl _ _ | apply bDrewN | apply bDrew)))) | exact (by first | exact h | exact h.step (by first | assumption | (repeat' (first | exact Below.refl _ _ | apply bDrewN | apply bDrew)))))
          · refine ⟨30, (.pointer (some ⟨bv, ov' + k * 2, none⟩)), rfl, by kernel_rfl, ?_⟩
            intro bsE vsE W hlb hlv hnd h
            obtain ⟨b0, bsE0, rfl, hlb0⟩ := len_one hlb
            obtain ⟨v0, vsE0, rfl, hlv0⟩ := len_one hlv
            obtain ⟨b1, bsE1, rfl, hlb1⟩ := len_one hlb0
            obtain ⟨v1, vsE1, rfl, hlv1⟩ := len_one hlv0
            obtain rfl := len_nil hlb1
            obtain rfl := len_nil hlv1
            replace h : BxQ wr z1 z2 b0 b1 v0 W := h
            clear hnd
            have HST := Lib.hid h
            have g1 := cell_step q1 h.bel; have g2 := cell_step q2 h.bel; have g3 := cell_step p1 h.bel; have g4 := cell_step p2 h.bel; have gs := h.bel.size
            intro K Q hK
            simp only [putE, updAll, Act.put, List.setIfInBounds_toArray, List.set_cons_zero, List.set_cons_succ, List.set_nil] at hK ⊢
            go_wp2_with (fail)
            all_goals (first | exact hK _ (by first | exact h | exact h.step (by first | assumption | (repeat' (first | exact Below.refl _ _ | apply bDrewN | apply bDrew)))) | exact (by first | exact h | exact h.step (by first | assumption | (repeat' (first | exact Below.refl _ _ | apply bDrewN | apply bDrew)))))
          · refine ⟨31, (.agg #[.int .i64 y1, .int .i64 y2]), rfl, by kernel_rfl, ?_⟩
            intro bsE vsE W hlb hlv hnd h
            obtain ⟨b0, bsE0, rfl, hlb0⟩ := len_one hlb
            obtain ⟨v0, vsE0, rfl, hlv0⟩ := len_one hlv
            obtain ⟨b1, bsE1, rfl, hlb1⟩ := len_one hlb0
            obtain ⟨v1, vsE1, rfl, hlv1⟩ := len_one hlv0
            obtain rfl := len_nil hlb1
            obtain rfl := len_nil hlv1
            replace h : BxQ wr z1 z2 b0 b1 v0 W := h
            clear hnd
            have HST := Lib.hid h
            have g1 := cell_step q1 h.bel; have g2 := cell_step q2 h.bel; have g3 := cell_step p1 h.bel; have g4 := cell_step p2 h.bel; have gs := h.bel.size
            intro K Q hK
            simp only [putE, updAll, Act.put, List.setIfInBounds_toArray, List.set_cons_zero, List.set_cons_succ, List.set_nil] at hK ⊢
            go_wp2_with (fail)
            all_goals (first | exact hK _ (by first | exact h | exact h.step (by first | assumption | (repeat' (first | exact Below.refl _ _ | apply bDrewN | apply bDrew)))) | exact (by first | exact h | exact h.step (by first | assumption | (repeat' (first | exact Below.refl _ _ | apply bDrewN | apply bDrew)))))
          · refine ⟨32, (.tuple #[.agg #[.int .i64 z1, .int .i64 z2], .int .i64 er]), rfl, by kernel_rfl, ?_⟩
            intro bsE vsE W hlb hlv hnd h
            obtain ⟨b0, bsE0, rfl, hlb0⟩ := len_one hlb
            obtain ⟨v0, vsE0, rfl, hlv0⟩ := len_one hlv
            obtain ⟨b1, bsE1, rfl, hlb1⟩ := len_one hlb0
            obtain ⟨v1, vsE1, rfl, hlv1⟩ := len_one hlv0
            obtain rfl := len_nil hlb1
            obtain rfl := len_nil hlv1
            replace h : BxQ wr z1 z2 b0 b1 v0 W := h
            clear hnd
            have HST := Lib.hid h
            have g1 := cell_step q1 h.bel; have g2 := cell_step q2 h.bel; have g3 := cell_step p1 h.bel; have g4 := cell_step p2 h.bel; have gs := h.bel.size
            intro K Q hK
            simp only [putE, updAll, Act.put, List.setIfInBounds_toArray, List.set_cons_zero, List.set_cons_succ, List.set_nil] at hK ⊢
            go_wp2_with (go_at_call 69; refine (CZ.out _).mono ?_; rintro e w9 ⟨rfl, hb9⟩)
            all_goals (first | exact hK _ (by first | exact h | exact h.step (by first | assumption | (repeat' (first | exact Below.refl _ _ | apply bDrewN | apply bDrew)))) | exact (by first | exact h | exact h.step (by first | assumption | (repeat' (first | exact Below.refl _ _ | apply bDrewN | apply bDrew)))))
          · refine ⟨23, (.tuple #[.agg #[.int .i64 z1, .int .i64 z2], .int .i64 er]), rfl, by kernel_rfl, ?_⟩
            intro bsE vsE W hlb hlv hnd h
            obtain ⟨b0, bsE0, rfl, hlb0⟩ := len_one hlb
            obtain ⟨v0, vsE0, rfl, hlv0⟩ := len_one hlv
            obtain ⟨b1, bsE1, rfl, hlb1⟩ := len_one hlb0
            obtain ⟨v1, vsE1, rfl, hlv1⟩ := len_one hlv0
            obtain rfl := len_nil hlb1
            obtain rfl := len_nil hlv1
            replace h : BxQ wr z1 z2 b0 b1 v0 W := h
            clear hnd
            have HST := Lib.hid h
            have g1 := cell_step q1 h.bel; have g2 := cell_step q2 h.bel; have g3 := cell_step p1 h.bel; have g4 := cell_step p2 h.bel; have gs := h.bel.size
            intro K Q hK
            simp only [putE, updAll, Act.put, List.setIfInBounds_toArray, List.set_cons_zero, List.set_cons_succ, List.set_nil] at hK ⊢
            go_wp2_with (fail)
            all_goals (first | exact hK _ (by first | exact h | exact h.step (by first | assumption | (repeat' (first | exact Below.refl _ _ | apply bDrewN | apply bDrew)))) | exact (by first | exact h | exact h.step (by first | assumption | (repeat' (first | exact Below.refl _ _ | apply bDrewN | apply bDrew)))))
          · refine ⟨33, (.agg #[.int .i64 z1, .int .i64 z2]), rfl, by kernel_rfl, ?_⟩
            intro bsE vsE W hlb hlv hnd h
            obtain ⟨b0, bsE0, rfl, hlb0⟩ := len_one hlb
            obtain ⟨v0, vsE0, rfl, hlv0⟩ := len_one hlv
            obtain ⟨b1, bsE1, rfl, hlb1⟩ := len_one hlb0
            obtain ⟨v1, vsE1, rfl, hlv1⟩ := len_one hlv0
            obtain rfl := len_nil hlb1
            obtain rfl := len_nil hlv1
            replace h : BxQ wr z1 z2 b0 b1 v0 W := h
            clear hnd
            have HST := Lib.hid h
            have g1 := cell_step q1 h.bel; have g2 := cell_step q2 h.bel; have g3 := cell_step p1 h.bel; have g4 := cell_step p2 h.bel; have gs := h.bel.size
            intro K Q hK
            simp only [putE, updAll, Act.put, List.setIfInBounds_toArray, List.set_cons_zero, List.set_cons_succ, List.set_nil] at hK ⊢
            go_wp2_with (fail)
            all_goals (first | exact hK _ (by first | exact h | exact h.step (by first | assumption | (repeat' (first | exact Below.refl _ _ | apply bDrewN | apply bDrew)))) | exact (by first | exact h | exact h.step (by first | assumption | (repeat' (first | exact Below.refl _ _ | apply bDrewN | apply bDrew)))))
          · refine ⟨34, (.int .i64 er), rfl, by kernel_rfl, ?_⟩
            intro bsE vsE W hlb hlv hnd h
            obtain ⟨b0, bsE0, rfl, hlb0⟩ := len_one hlb
            obtain ⟨v0, vsE0, rfl, hlv0⟩ := len_one hlv
            obtain ⟨b1, bsE1, rfl, hlb1⟩ := len_one hlb0
            obtain ⟨v1, vsE1, rfl, hlv1⟩ := len_one hlv0
            obtain rfl := len_nil hlb1
            obtain rfl := len_nil hlv1
            replace h : BxQ wr z1 z2 b0 b1 v0 W := h
            clear hnd
            have HST := Lib.hid h
            have g1 := cell_step q1 h.bel; have g2 := cell_step q2 h.bel; have g3 := cell_step p1 h.bel; have g4 := cell_step p2 h.bel; have gs := h.bel.size
            intro K Q hK
            simp only [putE, updAll, Act.put, List.setIfInBounds_toArray, List.set_cons_zero, List.set_cons_succ, List.set_nil] at hK ⊢
            go_wp2_with (fail)
            all_goals (first | exact hK _ (by first | exact h | exact h.step (by first | assumption | (repeat' (first | exact Below.refl _ _ | apply bDrewN | apply bDrew)))) | exact (by first | exact h | exact h.step (by first | assumption | (repeat' (first | exact Below.refl _ _ | apply bDrewN | apply bDrew)))))
          · refine Or.inl ⟨9, rfl, ?_⟩
            intro bsE vsE W hlb hlv hnd hbk h
            obtain ⟨b0, bsE0, rfl, hlb0⟩ := len_one hlb
            obtain ⟨v0, vsE0, rfl, hlv0⟩ := len_one hlv
            obtain ⟨b1, bsE1, rfl, hlb1⟩ := len_one hlb0
            obtain ⟨v1, vsE1, rfl, hlv1⟩ := len_one hlv0
            obtain rfl := len_nil hlb1
            obtain rfl := len_nil hlv1
            obtain rfl : b0 = false := hbk
            replace h : BxQ wr z1 z2 false b1 v0 W := h
            clear hnd
            have HST := Lib.hid h
            have g1 := cell_step q1 h.bel; have g2 := cell_step q2 h.bel; have g3 := cell_step p1 h.bel; have g4 := cell_step p2 h.bel; have gs := h.bel.size
            intro K Q hK
            simp only [putE, updAll, Act.put, List.setIfInBounds_toArray, List.set_cons_zero, List.set_cons_succ, List.set_nil] at hK ⊢
            go_wp2_with fail
            all_goals (first | exact hK _ _ h.mk0' | exact h.mk0')
          · refine Or.inr ⟨rfl, ?_⟩
            intro bsE vsE W hlb hlv hnd hbk h
            obtain ⟨b0, bsE0, rfl, hlb0⟩ := len_one hlb
            obtain ⟨v0, vsE0, rfl, hlv0⟩ := len_one hlv
            obtain ⟨b1, bsE1, rfl, hlb1⟩ := len_one hlb0
            obtain ⟨v1, vsE1, rfl, hlv1⟩ := len_one hlv0
            obtain rfl := len_nil hlb1
            obtain rfl := len_nil hlv1
            obtain rfl : b0 = true := hnd 0 (by simp)
            obtain rfl : b1 = false := hbk
            replace h : BxQ wr z1 z2 true false v0 W := h
            clear hnd
            have HST := Lib.hid h
            obtain ⟨r, rfl⟩ := h.open_; obtain ⟨_, er', hr1, hr2⟩ := h.bx rfl; cases er'; simp only [Bool.false_eq_true, if_false] at hr2; have t0 := blk_cell (o := 0) hr2 rfl; have t1 := blk_cell (o := 1) hr2 rfl; have t2 := blk_free (o := 0) hr2; have t3 := blk_free (o := 1) hr2; have t4 := blk_lt hr2
            intro K Q hK
            simp only [putE, updAll, Act.put, List.setIfInBounds_toArray, List.set_cons_zero, List.set_cons_succ, List.set_nil] at hK ⊢
            go_wp2_with fail
            all_goals (first | exact hK _ h.put | exact h.put)
          · refine ⟨10, (.int .i64 er), rfl, by kernel_rfl, ?_⟩
            intro bsE vsE W hlb hlv hnd h
            obtain ⟨b0, bsE0, rfl, hlb0⟩ := len_one hlb
            obtain ⟨v0, vsE0, rfl, hlv0⟩ := len_one hlv
            obtain ⟨b1, bsE1, rfl, hlb1⟩ := len_one hlb0
            obtain ⟨v1, vsE1, rfl, hlv1⟩ := len_one hlv0
            obtain rfl := len_nil hlb1
            obtain rfl := len_nil hlv1
            replace h : BxQ wr z1 z2 b0 b1 v0 W := h
            clear hnd
            have HST := Lib.hid h
            have g1 := cell_step q1 h.bel; have g2 := cell_step q2 h.bel; have g3 := cell_step p1 h.bel; have g4 := cell_step p2 h.bel; have gs := h.bel.size
            intro K Q hK
            simp only [putE, updAll, Act.put, List.setIfInBounds_toArray, List.set_cons_zero, List.set_cons_succ, List.set_nil] at hK ⊢
            go_wp2_with (fail)
            all_goals (first | exact hK _ (by first | exact h | exact h.step (by first | assumption | (repeat' (first | exact Below.refl _ _ | apply bDrewN | apply bDrew)))) | exact (by first | exact h | exact h.step (by first | assumption | (repeat' (first | exact Below.refl _ _ | apply bDrewN | apply bDrew)))))
        case done =>
          intro vsE W hlv h
          obtain ⟨v0, vsE0, rfl, hlv0⟩ := len_one hlv
          obtain ⟨v1, vsE1, rfl, hlv1⟩ := len_one hlv0
          obtain rfl := len_nil hlv1
          replace h : BxQ wr z1 z2 true true v0 W := h
          have HST := Lib.hid h
          obtain ⟨r, er', hr1, hr2⟩ := h.bx rfl
          subst er'
          simp only [if_true] at hr2
          have t0 := blk_cell (o := 0) hr2 rfl
          have t1 := blk_cell (o := 1) hr2 rfl
          have t4 := blk_lt hr2
          have hbR := h.bel
          have HO2 := Lib.hid (HO.out.step hbR)
          simp only [putE, updAll, Act.put, List.setIfInBounds_toArray, List.set_cons_zero, List.set_cons_succ, List.set_nil]
          by_cases her : er = 0
          · subst her
            have HI3 := Lib.hid (HI2.out rfl)
            clear HI2 HN2
            go_wp2_with (at_builtin; refine wpList_append_own _ rfl (.tmp 38) (.tmp 40) 47 rfl (w.heap.size) 40 i0 (.agg #[.int .i64 0, .int .i64 0]) 2 16 Try.underlying47 hi hz0 hz1 hz2 rfl (by decide) _ _ _ rfl (World.ownsRow.alloc HO2.out _) ⟨_, 0, none⟩ 1 1 [.int .i64 z1, .int .i64 z2] rfl rfl (two_cells _ _ _ _) (two_one _ _) (by have := HL8.out; unfold maxLen; omega) (by have := HL8.out; omega) (by have := hb.size; have := hbR.size; simp; omega) ?_; intro v' w9 hown hgrow _; have kB : Below w.heap.size w w9 := (bAlloc (bStep hb hbR) _).grown hgrow (by have := hb.size; have := hbR.size; simp; omega) (own_ge HO2.out))
            go_roundw
            case rel => exact ⟨k + 1, by omega, by push_cast; rfl, by unfold Hid; rw [HS2.out]; exact SpOwn.more hown, kB, HI3.out⟩
            case measure => (simp [intOf]; omega)
          · have hR := HN2.out her
            subst hR
            clear HI2 HN2
            go_wp2_with fail
            go_ret2
            exact ⟨_, rfl, SpRow.nil, (by repeat' (first | exact Below.refl _ _ | assumption | apply bDrewN | apply bDrew | apply bAlloc | (refine bSet ?_ ?_ _) | (refine bStep ?_ (by assumption)) | omega | (simp <;> omega)))⟩
      · obtain rfl : k = l.length := by omega
        have hR : R = (OU l.length, 0) := by rw [HP.out, if_pos (HG2.out (fun j hj => HI.out j hj))]
        have hLk := HN.out l.length
        generalize OU l.length = OK at *
        subst hR
        have hle : ¬ ((l.length : Nat) : Int) < l.length := by omega
        obtain ⟨a9, c9, rfl, -⟩ := HO.out.at_
        have HO3 := SpOwn.row HO.out
        rw [hLk] at HO3
        have HO2 := Lib.hid HO3
        clear HO3
        clear HG1 HG2 HP HS HN HI HGk HO
        go_wp2_with fail
        go_ret2
        exact ⟨_, rfl, HO2.out, (by repeat' (first | exact Below.refl _ _ | assumption | apply bDrewN | apply bDrew | apply bAlloc | (refine bSet ?_ ?_ _) | (refine bStep ?_ (by assumption)) | omega | (simp <;> omega)))⟩
  · have hr : pairsS meetS l m = ([], boxesS l m) := by rw [hp, if_pos h0]
    rw [hr]
    generalize boxesS l m = z at *
    clear hr hp hA hB hl hm
    go_enter Try.func26, Try.ntmps26
    go_wp2_with (go_at_call 68; refine (C.out _ HV.out HU.out).mono ?_; rintro e w1 ⟨rfl, hb1⟩)
    go_ret2
    exact ⟨_, rfl, SpRow.nil, (by repeat' (first | exact Below.refl _ _ | assumption | apply bDrewN | apply bDrew | apply bAlloc | (refine bSet ?_ ?_ _) | (refine bStep ?_ (by assumption)) | omega | (simp <;> omega)))⟩

set_option maxHeartbeats 4000000 in
set_option maxRecDepth 20000 in
theorem RBoxhull_row (v u : Value) (l m : List (Int × Int)) (w : World) (hl : l.length ≤ 1000000) (hm : m.length ≤ 1000000) (hv : SpRow v l w) (hu : SpRow u m w) :
    Calls Try.prog 29 #[v, u] w fun e w' => ∃ x, e = .returned (.tuple #[x, .int .i64 (pairsS hullS l m).2]) ∧ SpRow x (pairsS hullS l m).1 w' ∧ Below w.heap.size w w' := by
  have C := Lib.hid (fun w h1 h2 => Rboxes_row v u l m w hl hm h1 h2)
  have HV := Lib.hid hv
  have HU := Lib.hid hu
  obtain ⟨a, ca, rfl, hA⟩ := hv
  obtain ⟨b, cb, rfl, hB⟩ := hu
  have hp := pairs_boxes hullS l m
  by_cases h0 : boxesS l m = 0
  · rw [if_neg (fun h => h h0)] at hp
    obtain ⟨h8, hlm, hok1, hok2⟩ := boxes_good h0
    have HE0 := Lib.hid (hull_noerr h0)
    rw [h0] at C
    have H3 := Lib.hid hlm
    rw [hlm] at HU C ⊢
    have HA := Lib.hid hA
    have HB := Lib.hid hB
    have HG1 := Lib.hid (fun k (hk : k < l.length) h0 h1 => firstErr_at (g := hullS) (l := l) (m := m) (k := k) hk h0 h1)
    have HG2 := Lib.hid (fun h0 => firstErr_none (g := hullS) (l := l) (m := m) h0)
    have HP := Lib.hid hp
    have HS := Lib.hid (fun n => outs_succ hullS l m n)
    have HN := Lib.hid (fun n => outs_len hullS l m n)
    have HGk := Lib.hid (fun k => show gAt hullS l m k = hullS (l.getD k (0, 0)) (m.getD k (0, 0)) from rfl)
    generalize pairsS hullS l m = R at *
    generalize gAt hullS l m = G at *
    generalize outs hullS l m = OU at *
    generalize firstErr hullS l m = fe at *
    clear hA hB hp hlm h0 hok1 hok2 hl hm
    obtain ⟨i0, hi, hz0, hz1, hz2⟩ := info_parts infoSp
    go_enter Try.func29, Try.ntmps29
    go_wp2_with (go_at_call 68; refine (C.out _ HV.out HU.out).mono ?_; rintro e w1 ⟨rfl, hb1⟩)
    go_loopw [7, 8] (fun ov i wr => ∃ k : Nat, k ≤ l.length ∧ i = .int .i64 k ∧ Hid (SpOwn wr w.heap.size ov (OU k)) ∧ Hid (Below w.heap.size w wr) ∧ Hid (∀ j, j < k → (G j).2 = 0)) (fun _ i _ => l.length - (intOf i).toNat)
    case atStart =>
      refine ⟨0, by omega, rfl, ?_, Lib.hid hb1, fun j hj => by omega⟩
      have h9 := HN.out 0
      have : OU 0 = [] := List.length_eq_zero_iff.1 h9
      unfold Hid
      rw [this]
      exact SpOwn.nil
    case round =>
      obtain ⟨k, hk, rfl, HO, HW, HI⟩ := hrel
      have hb := HW.out
      by_cases hlt : k < l.length
      · have hlm : k < m.length := by rw [H3.out]; exact hlt
        obtain ⟨bu, ou, rfl, hc⟩ := (HA.out.step HW.out) (fun h => by rw [h] at hlt; simp at hlt)
        obtain ⟨bv, ov', rfl, hd⟩ := (HB.out.step HW.out) (fun h => by rw [h] at hlm; simp at hlm)
        have q12 := hc.2 k hlt
        have p12 := hd.2 k hlm
        have hGk := HGk.out k
        have lu := hc.1
        have lv := hd.1
        have hlt2 : (k : Int) < l.length := by omega
        have HI2 : Hid ((G k).2 = 0 → ∀ j, j < k + 1 → (G j).2 = 0) := by
          intro h j hj
          rcases Nat.lt_or_ge j k with h' | h'
          · exact HI.out j h'
          · obtain rfl : j = k := by omega
            exact h
        have HN2 : Hid ((G k).2 ≠ 0 → R = ([], (G k).2)) := fun h => by
          have e := HG1.out k hlt (fun j hj => HI.out j hj) h
          rw [HP.out, if_neg (by rw [e]; exact h), e]
        have hE0 := HE0.out k hlt
        have HS2 := Lib.hid (HS.out k)
        have hLk := HN.out k
        clear hc hd HI HG1 HG2 HGk HS HE0
        generalize l.getD k (0, 0) = x at *
        generalize m.getD k (0, 0) = y at *
        obtain ⟨x1, x2⟩ := x
        obtain ⟨y1, y2⟩ := y
        obtain ⟨q1, q2⟩ := q12
        obtain ⟨p1, p2⟩ := p12
        have CX := fun W => RHull_any (x1, x2) (y1, y2) W
        rw [← hGk] at CX
        have HL8 := Lib.hid (show (OU k).length ≤ 8 by rw [hLk]; omega)
        generalize hgk : G k = gk at *
        obtain ⟨⟨z1, z2⟩, er⟩ := gk
        dsimp only at q1 q2 p1 p2 CX HI2 HN2 HS2 hE0
        have CZ := Lib.hid CX
        clear CX hgk hGk hLk HN
        subst hE0
        go_upto_region 8 with fail
        refine region_all 15 8 40 [(12, 9), (13, 41)] [(none, []), (none, []), (none, []), (none, []), (none, []), (none, []), (none, []), (none, []), (none, []), (none, []), (none, []), (none, []), (some 0, []), (some 1, [0]), (none, [])] [(24, (.slice (some ⟨bu, ou, none⟩) l.length ca)), (25, (.int .i64 (k : Int))), (26, (.pointer (some ⟨bu, ou + k * 2, none⟩))), (27, (.agg #[.int .i64 x1, .int .i64 x2])), (28, (.slice (some ⟨bv, ov', none⟩) l.length cb)), (29, (.int .i64 (k : Int))), (30, (.pointer (some ⟨bv, ov' + k * 2, none⟩))), (31, (.agg #[.int .i64 y1, .int .i64 y2])), (32, (.tuple #[.agg #[.int .i64 z1, .int .i64 z2], .int .i64 0])), (23, (.tuple #[.agg #[.int .i64 z1, .int .i64 z2], .int .i64 0])), (33, (.agg #[.int .i64 z1, .int .i64 z2])), (34, (.int .i64 0)), (10, (.int .i64 0))] (fun bsE vsE W => BxQ wr z1 z2 (bsE.getD 0 false) (bsE.getD 1 false) (vsE.getD 0 undef) W) (by kernel_rfl) (by kernel_rfl) rfl rfl (by kernel_rfl) (by rfl) ?h0 ?each ?done
        case h0 =>
          intro vsE hlv
          obtain ⟨v0, vsE0, rfl, hlv0⟩ := len_one hlv
          obtain ⟨v1, vsE1, rfl, hlv1⟩ := len_one hlv0
          obtain rfl := len_nil hlv1
          exact ⟨(Below.refl _ _).drew, (fun e => by cases e), (fun e => by cases e)⟩
        case each =>
          simp only [AllE]
          refine ⟨?_, ?_, ?_, ?_, ?_, ?_, ?_, ?_, ?_, ?_, ?_, ?_, ?_, ?_, ?_, trivial⟩
          · refine ⟨24, (.slice (some ⟨bu, ou, none⟩) l.length ca), rfl, by kernel_rfl, ?_⟩
            intro bsE vsE W hlb hlv hnd h
            obtain ⟨b0, bsE0, rfl, hlb0⟩ := len_one hlb
            obtain ⟨v0, vsE0, rfl, hlv0⟩ := len_one hlv
            obtain ⟨b1, bsE1, rfl, hlb1⟩ := len_one hlb0
            obtain ⟨v1, vsE1, rfl, hlv1⟩ := len_one hlv0
            obtain rfl := len_nil hlb1
            obtain rfl := len_nil hlv1
            replace h : BxQ wr z1 z2 b0 b1 v0 W := h
            clear hnd
            have HST := Lib.hid h
            have g1 := cell_step q1 h.bel; have g2 := cell_step q2 h.bel; have g3 := cell_step p1 h.bel; have g4 := cell_step p2 h.bel; have gs := h.bel.size
            intro K Q hK
            simp only [putE, updAll, Act.put, List.setIfInBounds_toArray, List.set_cons_zero, List.set_cons_succ, List.set_nil] at hK ⊢
            go_wp2_with (fail)
            all_goals (first | exact hK _ (by first | exact h | exact h.step (by first | assumption | (repeat' (first | exact Below.refl _ _ | apply bDrewN | apply bDrew)))) | exact (by first | exact h | exact h.step (by first | assumption | (repeat' (first | exact Below.refl _ _ | apply bDrewN | apply bDrew)))))
          · refine ⟨25, (.int .i64 (k : Int)), rfl, by kernel_rfl, ?_⟩
            intro bsE vsE W hlb hlv hnd h
            obtain ⟨b0, bsE0, rfl, hlb0⟩ := len_one hlb
            obtain ⟨v0, vsE0, rfl, hlv0⟩ := len_one hlv
            obtain ⟨b1, bsE1, rfl, hlb1⟩ := len_one hlb0
            obtain ⟨v1, vsE1, rfl, hlv1⟩ := len_one hlv0
            obtain rfl := len_nil hlb1
            obtain rfl := len_nil hlv1
            replace h : BxQ wr z1 z2 b0 b1 v0 W := h
            clear hnd
            have HST := Lib.hid h
            have g1 := cell_step q1 h.bel; have g2 := cell_step q2 h.bel; have g3 := cell_step p1 h.bel; have g4 := cell_step p2 h.bel; have gs := h.bel.size
            intro K Q hK
            simp only [putE, updAll, Act.put, List.setIfInBounds_toArray, List.set_cons_zero, List.set_cons_succ, List.set_nil] at hK ⊢
            go_wp2_with (fail)
            all_goals (first | exact hK _ (by first | exact h | exact h.step (by first | assumption | (repeat' (first | exact Below.refl _ _ | apply bDrewN | apply bDrew)))) | exact (by first | exact h | exact h.step (by first | assumption | (repeat' (first | exact Below.refl _ _ | apply bDrewN | apply bDrew)))))
          · refine ⟨26, (.pointer (some ⟨bu, ou + k * 2, none⟩)), rfl, by kernel_rfl, ?_⟩
            intro bsE vsE W hlb hlv hnd h
            obtain ⟨b0, bsE0, rfl, hlb0⟩ := len_one hlb
            obtain ⟨v0, vsE0, rfl, hlv0⟩ := len_one hlv
            obtain ⟨b1, bsE1, rfl, hlb1⟩ := len_one hlb0
            obtain ⟨v1, vsE1, rfl, hlv1⟩ := len_one hlv0
            obtain rfl := len_nil hlb1
            obtain rfl := len_nil hlv1
            replace h : BxQ wr z1 z2 b0 b1 v0 W := h
            clear hnd
            have HST := Lib.hid h
            have g1 := cell_step q1 h.bel; have g2 := cell_step q2 h.bel; have g3 := cell_step p1 h.bel; have g4 := cell_step p2 h.bel; have gs := h.bel.size
            intro K Q hK
            simp only [putE, updAll, Act.put, List.setIfInBounds_toArray, List.set_cons_zero, List.set_cons_succ, List.set_nil] at hK ⊢
            go_wp2_with (fail)
            all_goals (first | exact hK _ (by first | exact h | exact h.step (by first | assumption | (repeat' (first | exact Below.refl _ _ | apply bDrewN | apply bDrew)))) | exact (by first | exact h | exact h.step (by first | assumption | (repeat' (first | exact Below.refl _ _ | apply bDrewN | apply bDrew)))))
          · refine ⟨27, (.agg #[.int .i64 x1, .int .i64 x2]), rfl, by kernel_rfl, ?_⟩
            intro bsE vsE W hlb hlv hnd h
            obtain ⟨b0, bsE0, rfl, hlb0⟩ := len_one hlb
            obtain ⟨v0, vsE0, rfl, hlv0⟩ := len_one hlv
            obtain ⟨b1, bsE1, rfl, hlb1⟩ := len_one hlb0
            obtain ⟨v1, vsE1, rfl, hlv1⟩ := len_one hlv0
            obtain rfl := len_nil hlb1
            obtain rfl := len_nil hlv1
            replace h : BxQ wr z1 z2 b0 b1 v0 W := h
            clear hnd
            have HST := Lib.hid h
            have g1 := cell_step q1 h.bel; have g2 := cell_step q2 h.bel; have g3 := cell_step p1 h.bel; have g4 := cell_step p2 h.bel; have gs := h.bel.size
            intro K Q hK
            simp only [putE, updAll, Act.put, List.setIfInBounds_toArray, List.set_cons_zero, List.set_cons_succ, List.set_nil] at hK ⊢
            go_wp2_with (fail)
            all_goals (first | exact hK _ (by first | exact h | exact h.step (by first | assumption | (repeat' (first | exact Below.refl _ _ | apply bDrewN | apply bDrew)))) | exact (by first | exact h | exact h.step (by first | assumption | (repeat' (first | exact Below.refl _ _ | apply bDrewN | apply bDrew)))))
          · refine ⟨28, (.slice (some ⟨bv, ov', none⟩) l.length cb), rfl, by kernel_rfl, ?_⟩
            intro bsE vsE W hlb hlv hnd h
            obtain ⟨b0, bsE0, rfl, hlb0⟩ := len_one hlb
            obtain ⟨v0, vsE0, rfl, hlv0⟩ := len_one hlv
            obtain ⟨b1, bsE1, rfl, hlb1⟩ := len_one hlb0
            obtain ⟨v1, vsE1, rfl, hlv1⟩ := len_one hlv0
            obtain rfl := len_nil hlb1
            obtain rfl := len_nil hlv1
            replace h : BxQ wr z1 z2 b0 b1 v0 W := h
            clear hnd
            have HST := Lib.hid h
            have g1 := cell_step q1 h.bel; have g2 := cell_step q2 h.bel; have g3 := cell_step p1 h.bel; have g4 := cell_step p2 h.bel; have gs := h.bel.size
            intro K Q hK
            simp only [putE, updAll, Act.put, List.setIfInBounds_toArray, List.set_cons_zero, List.set_cons_succ, List.set_nil] at hK ⊢
            go_wp2_with (fail)
            all_goals (first | exact hK _ (by first | exact h | exact h.step (by first | assumption | (repeat' (first | exact Below.refl _ _ | apply bDrewN | apply bDrew)))) | exact (by first | exact h | exact h.step (by first | assumption | (repeat' (first | exact Below.refl _ _ | apply bDrewN | apply bDrew)))))
          · refine ⟨29, (.int .i64 (k : Int)), rfl, by kernel_rfl, ?_⟩
            intro bsE vsE W hlb hlv hnd h
            obtain ⟨b0, bsE0, rfl, hlb0⟩ := len_one hlb
            obtain ⟨v0, vsE0, rfl, hlv0⟩ := len_one hlv
            obtain ⟨b1, bsE1, rfl, hlb1⟩ := len_one hlb0
            obtain ⟨v1, vsE1, rfl, hlv1⟩ := len_one hlv0
            obtain rfl := len_nil hlb1
            obtain rfl := len_nil hlv1
            replace h : BxQ wr z1 z2 b0 b1 v0 W := h
            clear hnd
            have HST := Lib.hid h
            have g1 := cell_step q1 h.bel; have g2 := cell_step q2 h.bel; have g3 := cell_step p1 h.bel; have g4 := cell_step p2 h.bel; have gs := h.bel.size
            intro K Q hK
            simp only [putE, updAll, Act.put, List.setIfInBounds_toArray, List.set_cons_zero, List.set_cons_succ, List.set_nil] at hK ⊢
            go_wp2_with (fail)
            all_goals (first | exact hK _ (by first | exact h | exact h.step (by first | assumption | (repeat' (first | exact Below.refl _ _ | apply bDrewN | apply bDrew)))) | exact (by first | exact h | exact h.step (by first | assumption | (repeat' (first | exact Below.refl _ _ | apply bDrewN | apply bDrew)))))
          · refine ⟨30, (.pointer (some ⟨bv, ov' + k * 2, none⟩)), rfl, by kernel_rfl, ?_⟩
            intro bsE vsE W hlb hlv hnd h
            obtain ⟨b0, bsE0, rfl, hlb0⟩ := len_one hlb
            obtain ⟨v0, vsE0, rfl, hlv0⟩ := len_one hlv
            obtain ⟨b1, bsE1, rfl, hlb1⟩ := len_one hlb0
            obtain ⟨v1, vsE1, rfl, hlv1⟩ := len_one hlv0
            obtain rfl := len_nil hlb1
            obtain rfl := len_nil hlv1
            replace h : BxQ wr z1 z2 b0 b1 v0 W := h
            clear hnd
            have HST := Lib.hid h
            have g1 := cell_step q1 h.bel; have g2 := cell_step q2 h.bel; have g3 := cell_step p1 h.bel; have g4 := cell_step p2 h.bel; have gs := h.bel.size
            intro K Q hK
            simp only [putE, updAll, Act.put, List.setIfInBounds_toArray, List.set_cons_zero, List.set_cons_succ, List.set_nil] at hK ⊢
            go_wp2_with (fail)
            all_goals (first | exact hK _ (by first | exact h | exact h.step (by first | assumption | (repeat' (first | exact Below.refl _ _ | apply bDrewN | apply bDrew)))) | exact (by first | exact h | exact h.step (by first | assumption | (repeat' (first | exact Below.refl _ _ | apply bDrewN | apply bDrew)))))
          · refine ⟨31, (.agg #[.int .i64 y1, .int .i64 y2]), rfl, by kernel_rfl, ?_⟩
            intro bsE vsE W hlb hlv hnd h
            obtain ⟨b0, bsE0, rfl, hlb0⟩ := len_one hlb
            obtain ⟨v0, vsE0, rfl, hlv0⟩ := len_one hlv
            obtain ⟨b1, bsE1, rfl, hlb1⟩ := len_one hlb0
            obtain ⟨v1, vsE1, rfl, hlv1⟩ := len_one hlv0
            obtain rfl := len_nil hlb1
            obtain rfl := len_nil hlv1
            replace h : BxQ wr z1 z2 b0 b1 v0 W := h
            clear hnd
            have HST := Lib.hid h
            have g1 := cell_step q1 h.bel; have g2 := cell_step q2 h.bel; have g3 := cell_step p1 h.bel; have g4 := cell_step p2 h.bel; have gs := h.bel.size
            intro K Q hK
            simp only [putE, updAll, Act.put, List.setIfInBounds_toArray, List.set_cons_zero, List.set_cons_succ, List.set_nil] at hK ⊢
            go_wp2_with (fail)
            all_goals (first | exact hK _ (by first | exact h | exact h.step (by first | assumption | (repeat' (first | exact Below.refl _ _ | apply bDrewN | apply bDrew)))) | exact (by first | exact h | exact h.step (by first | assumption | (repeat' (first | exact Below.refl _ _ | apply bDrewN | apply bDrew)))))
          · refine ⟨32, (.tuple #[.agg #[.int .i64 z1, .int .i64 z2], .int .i64 0]), rfl, by kernel_rfl, ?_⟩
            intro bsE vsE W hlb hlv hnd h
            obtain ⟨b0, bsE0, rfl, hlb0⟩ := len_one hlb
            obtain ⟨v0, vsE0, rfl, hlv0⟩ := len_one hlv
            obtain ⟨b1, bsE1, rfl, hlb1⟩ := len_one hlb0
            obtain ⟨v1, vsE1, rfl, hlv1⟩ := len_one hlv0
            obtain rfl := len_nil hlb1
            obtain rfl := len_nil hlv1
            replace h : BxQ wr z1 z2 b0 b1 v0 W := h
            clear hnd
            have HST := Lib.hid h
            have g1 := cell_step q1 h.bel; have g2 := cell_step q2 h.bel; have g3 := cell_step p1 h.bel; have g4 := cell_step p2 h.bel; have gs := h.bel.size
            intro K Q hK
            simp only [putE, updAll, Act.put, List.setIfInBounds_toArray, List.set_cons_zero, List.set_cons_succ, List.set_nil] at hK ⊢
            go_wp2_with (go_at_call 71; refine (CZ.out _).mono ?_; rintro e w9 ⟨rfl, hb9⟩)
            all_goals (first | exact hK _ (by first | exact h | exact h.step (by first | assumption | (repeat' (first | exact Below.refl _ _ | apply bDrewN | apply bDrew)))) | exact (by first | exact h | exact h.step (by first | assumption | (repeat' (first | exact Below.refl _ _ | apply bDrewN | apply bDrew)))))
          · refine ⟨23, (.tuple #[.agg #[.int .i64 z1, .int .i64 z2], .int .i64 0]), rfl, by kernel_rfl, ?_⟩
            intro bsE vsE W hlb hlv hnd h
            obtain ⟨b0, bsE0, rfl, hlb0⟩ := len_one hlb
            obtain ⟨v0, vsE0, rfl, hlv0⟩ := len_one hlv
            obtain ⟨b1, bsE1, rfl, hlb1⟩ := len_one hlb0
            obtain ⟨v1, vsE1, rfl, hlv1⟩ := len_one hlv0
            obtain rfl := len_nil hlb1
            obtain rfl := len_nil hlv1
            replace h : BxQ wr z1 z2 b0 b1 v0 W := h
            clear hnd
            have HST := Lib.hid h
            have g1 := cell_step q1 h.bel; have g2 := cell_step q2 h.bel; have g3 := cell_step p1 h.bel; have g4 := cell_step p2 h.bel; have gs := h.bel.size
            intro K Q hK
            simp only [putE, updAll, Act.put, List.setIfInBounds_toArray, List.set_cons_zero, List.set_cons_succ, List.set_nil] at hK ⊢
            go_wp2_with (fail)
            all_goals (first | exact hK _ (by first | exact h | exact h.step (by first | assumption | (repeat' (first | exact Below.refl _ _ | apply bDrewN | apply bDrew)))) | exact (by first | exact h | exact h.step (by first | assumption | (repeat' (first | exact Below.refl _ _ | apply bDrewN | apply bDrew)))))
          · refine ⟨33, (.agg #[.int .i64 z1, .int .i64 z2]), rfl, by kernel_rfl, ?_⟩
            intro bsE vsE W hlb hlv hnd h
            obtain ⟨b0, bsE0, rfl, hlb0⟩ := len_one hlb
            obtain ⟨v0, vsE0, rfl, hlv0⟩ := len_one hlv
            obtain ⟨b1, bsE1, rfl, hlb1⟩ := len_one hlb0
            obtain ⟨v1, vsE1, rfl, hlv1⟩ := len_one hlv0
            obtain rfl := len_nil hlb1
            obtain rfl := len_nil hlv1
            replace h : BxQ wr z1 z2 b0 b1 v0 W := h
            clear hnd
            have HST := Lib.hid h
            have g1 := cell_step q1 h.bel; have g2 := cell_step q2 h.bel; have g3 := cell_step p1 h.bel; have g4 := cell_step p2 h.bel; have gs := h.bel.size
            intro K Q hK
            simp only [putE, updAll, Act.put, List.setIfInBounds_toArray, List.set_cons_zero, List.set_cons_succ, List.set_nil] at hK ⊢
            go_wp2_with (fail)
            all_goals (first | exact hK _ (by first | exact h | exact h.step (by first | assumption | (repeat' (first | exact Below.refl _ _ | apply bDrewN | apply bDrew)))) | exact (by first | exact h | exact h.step (by first | assumption | (repeat' (first | exact Below.refl _ _ | apply bDrewN | apply bDrew)))))
          · refine ⟨34, (.int .i64 0), rfl, by kernel_rfl, ?_⟩
            intro bsE vsE W hlb hlv hnd h
            obtain ⟨b0, bsE0, rfl, hlb0⟩ := len_one hlb
            obtain ⟨v0, vsE0, rfl, hlv0⟩ := len_one hlv
            obtain ⟨b1, bsE1, rfl, hlb1⟩ := len_one hlb0
            obtain ⟨v1, vsE1, rfl, hlv1⟩ := len_one hlv0
            obtain rfl := len_nil hlb1
            obtain rfl := len_nil hlv1
            replace h : BxQ wr z1 z2 b0 b1 v0 W := h
            clear hnd
            have HST := Lib.hid h
            have g1 := cell_step q1 h.bel; have g2 := cell_step q2 h.bel; have g3 := cell_step p1 h.bel; have g4 := cell_step p2 h.bel; have gs := h.bel.size
            intro K Q hK
            simp only [putE, updAll, Act.put, List.setIfInBounds_toArray, List.set_cons_zero, List.set_cons_succ, List.set_nil] at hK ⊢
            go_wp2_with (fail)
            all_goals (first | exact hK _ (by first | exact h | exact h.step (by first | assumption | (repeat' (first | exact Below.refl _ _ | apply bDrewN | apply bDrew)))) | exact (by first | exact h | exact h.step (by first | assumption | (repeat' (first | exact Below.refl _ _ | apply bDrewN | apply bDrew)))))
          · refine Or.inl ⟨9, rfl, ?_⟩
            intro bsE vsE W hlb hlv hnd hbk h
            obtain ⟨b0, bsE0, rfl, hlb0⟩ := len_one hlb
            obtain ⟨v0, vsE0, rfl, hlv0⟩ := len_one hlv
            obtain ⟨b1, bsE1, rfl, hlb1⟩ := len_one hlb0
            obtain ⟨v1, vsE1, rfl, hlv1⟩ := len_one hlv0
            obtain rfl := len_nil hlb1
            obtain rfl := len_nil hlv1
            obtain rfl : b0 = false := hbk
            replace h : BxQ wr z1 z2 false b1 v0 W := h
            clear hnd
            have HST := Lib.hid h
            have g1 := cell_step q1 h.bel; have g2 := cell_step q2 h.bel; have g3 := cell_step p1 h.bel; have g4 := cell_step p2 h.bel; have gs := h.bel.size
            intro K Q hK
            simp only [putE, updAll, Act.put, List.setIfInBounds_toArray, List.set_cons_zero, List.set_cons_succ, List.set_nil] at hK ⊢
            go_wp2_with fail
            all_goals (first | exact hK _ _ h.mk0' | exact h.mk0')
          · refine Or.inr ⟨rfl, ?_⟩
            intro bsE vsE W hlb hlv hnd hbk h
            obtain ⟨b0, bsE0, rfl, hlb0⟩ := len_one hlb
            obtain ⟨v0, vsE0, rfl, hlv0⟩ := len_one hlv
            obtain ⟨b1, bsE1, rfl, hlb1⟩ := len_one hlb0
            obtain ⟨v1, vsE1, rfl, hlv1⟩ := len_one hlv0
            obtain rfl := len_nil hlb1
            obtain rfl := len_nil hlv1
            obtain rfl : b0 = true := hnd 0 (by simp)
            obtain rfl : b1 = false := hbk
            replace h : BxQ wr z1 z2 true false v0 W := h
            clear hnd
            have HST := Lib.hid h
            obtain ⟨r, rfl⟩ := h.open_; obtain ⟨_, er', hr1, hr2⟩ := h.bx rfl; cases er'; simp only [Bool.false_eq_true, if_false] at hr2; have t0 := blk_cell (o := 0) hr2 rfl; have t1 := blk_cell (o := 1) hr2 rfl; have t2 := blk_free (o := 0) hr2; have t3 := blk_free (o := 1) hr2; have t4 := blk_lt hr2
            intro K Q hK
            simp only [putE, updAll, Act.put, List.setIfInBounds_toArray, List.set_cons_zero, List.set_cons_succ, List.set_nil] at hK ⊢
            go_wp2_with fail
            all_goals (first | exact hK _ h.put | exact h.put)
          · refine ⟨10, (.int .i64 0), rfl, by kernel_rfl, ?_⟩
            intro bsE vsE W hlb hlv hnd h
            obtain ⟨b0, bsE0, rfl, hlb0⟩ := len_one hlb
            obtain ⟨v0, vsE0, rfl, hlv0⟩ := len_one hlv
            obtain ⟨b1, bsE1, rfl, hlb1⟩ := len_one hlb0
            obtain ⟨v1, vsE1, rfl, hlv1⟩ := len_one hlv0
            obtain rfl := len_nil hlb1
            obtain rfl := len_nil hlv1
            replace h : BxQ wr z1 z2 b0 b1 v0 W := h
            clear hnd
            have HST := Lib.hid h
            have g1 := cell_step q1 h.bel; have g2 := cell_step q2 h.bel; have g3 := cell_step p1 h.bel; have g4 := cell_step p2 h.bel; have gs := h.bel.size
            intro K Q hK
            simp only [putE, updAll, Act.put, List.setIfInBounds_toArray, List.set_cons_zero, List.set_cons_succ, List.set_nil] at hK ⊢
            go_wp2_with (fail)
            all_goals (first | exact hK _ (by first | exact h | exact h.step (by first | assumption | (repeat' (first | exact Below.refl _ _ | apply bDrewN | apply bDrew)))) | exact (by first | exact h | exact h.step (by first | assumption | (repeat' (first | exact Below.refl _ _ | apply bDrewN | apply bDrew)))))
        case done =>
          intro vsE W hlv h
          obtain ⟨v0, vsE0, rfl, hlv0⟩ := len_one hlv
          obtain ⟨v1, vsE1, rfl, hlv1⟩ := len_one hlv0
          obtain rfl := len_nil hlv1
          replace h : BxQ wr z1 z2 true true v0 W := h
          have HST := Lib.hid h
          obtain ⟨r, er', hr1, hr2⟩ := h.bx rfl
          subst er'
          simp only [if_true] at hr2
          have t0 := blk_cell (o := 0) hr2 rfl
          have t1 := blk_cell (o := 1) hr2 rfl
          have t4 := blk_lt hr2
          have hbR := h.bel
          have HO2 := Lib.hid (HO.out.step hbR)
          simp only [putE, updAll, Act.put, List.setIfInBounds_toArray, List.set_cons_zero, List.set_cons_succ, List.set_nil]
          have HI3 := Lib.hid (HI2.out rfl)
          clear HI2 HN2
          go_wp2_with (at_builtin; refine wpList_append_own _ rfl (.tmp 35) (.tmp 37) 47 rfl (w.heap.size) 40 i0 (.agg #[.int .i64 0, .int .i64 0]) 2 16 Try.underlying47 hi hz0 hz1 hz2 rfl (by decide) _ _ _ rfl (World.ownsRow.alloc HO2.out _) ⟨_, 0, none⟩ 1 1 [.int .i64 z1, .int .i64 z2] rfl rfl (two_cells _ _ _ _) (two_one _ _) (by have := HL8.out; unfold maxLen; omega) (by have := HL8.out; omega) (by have := hb.size; have := hbR.size; simp; omega) ?_; intro v' w9 hown hgrow _; have kB : Below w.heap.size w w9 := (bAlloc (bStep hb hbR) _).grown hgrow (by have := hb.size; have := hbR.size; simp; omega) (own_ge HO2.out))
          go_roundw
          case rel => exact ⟨k + 1, by omega, by push_cast; rfl, by unfold Hid; rw [HS2.out]; exact SpOwn.more hown, kB, HI3.out⟩
          case measure => (simp [intOf]; omega)
      · obtain rfl : k = l.length := by omega
        have hR : R = (OU l.length, 0) := by rw [HP.out, if_pos (HG2.out (fun j hj => HI.out j hj))]
        have hLk := HN.out l.length
        generalize OU l.length = OK at *
        subst hR
        have hle : ¬ ((l.length : Nat) : Int) < l.length := by omega
        obtain ⟨a9, c9, rfl, -⟩ := HO.out.at_
        have HO3 := SpOwn.row HO.out
        rw [hLk] at HO3
        have HO2 := Lib.hid HO3
        clear HO3
        clear HG1 HG2 HP HS HN HI HGk HO
        go_wp2_with fail
        go_ret2
        exact ⟨_, rfl, HO2.out, (by repeat' (first | exact Below.refl _ _ | assumption | apply bDrewN | apply bDrew | apply bAlloc | (refine bSet ?_ ?_ _) | (refine bStep ?_ (by assumption)) | omega | (simp <;> omega)))⟩
  · have hr : pairsS hullS l m = ([], boxesS l m) := by rw [hp, if_pos h0]
    rw [hr]
    generalize boxesS l m = z at *
    clear hr hp hA hB hl hm
    go_enter Try.func29, Try.ntmps29
    go_wp2_with (go_at_call 68; refine (C.out _ HV.out HU.out).mono ?_; rintro e w1 ⟨rfl, hb1⟩)
    go_ret2
    exact ⟨_, rfl, SpRow.nil, (by repeat' (first | exact Below.refl _ _ | assumption | apply bDrewN | apply bDrew | apply bAlloc | (refine bSet ?_ ?_ _) | (refine bStep ?_ (by assumption)) | omega | (simp <;> omega)))⟩

end Go.Proofs.Ytngnehlmbipabaa

/-
  A row that is copied by an append to an empty slice; two such rows and a box, in any order.
-/
set_option linter.unusedSimpArgs false
set_option linter.unusedVariables false
namespace Go.Proofs.Ytngnehlmbipabaa
open Go.RowKit
section
variable {P : Program}
theorem firstCells_noneZ {x : Value} (h : ∃ a n c, x = .slice a n c) (size : Nat) (w : World) : (Builtin.firstCells size 0 x).run P w = .ok #[] w := by
  obtain ⟨a, n, c, rfl⟩ := h
  cases a with
  | none => rfl
  | some a =>
    simp only [Builtin.firstCells, Nat.zero_mul]
    have := run_firstCells_some (P := P) w size 0 a n c [] (by simp) (fun j x hx => by simp at hx)
    simpa [Builtin.firstCells] using this
theorem run_append_zeroZ (w : World) (t ty e : TypeId) (i : TypeInfo) (ht : P.underlying t = some (.slice e)) (hi : P.info? e = some i) (base : Option Addr) (n cap : Nat) (h : n ≤ cap) (a : Option Addr) (c : Nat) :
    (Builtin.append_ #[t, t] ty #[.slice base n cap, .slice a 0 c]).run P w = .ok (.slice base n cap) w := by
  have hfc := firstCells_noneZ (P := P) ⟨a, 0, c, rfl⟩ i.size w
  cases base with
  | none => simp [Builtin.append_, run_underlying ht, sizeOf, typeInfo, hi, Builtin.lenOf, h, hfc]
  | some b => simp [Builtin.append_, run_underlying ht, sizeOf, typeInfo, hi, Builtin.lenOf, h, hfc, storeCells]
end
theorem bAlZ {W : World} {o : Obj} : Below W.heap.size W (W.alloc o) := (Below.refl _ _).alloc (Nat.le_refl _) _
theorem run_app_copy (w : World) (v : Value) (B : Nat) (rs : List Int) (hown : IntOwn w B v rs) (src : Option Addr) (xs : List Int) (c : Nat) (hsrc : IntAt src xs w) (hl : rs.length + xs.length ≤ 10000000) (hB : B ≤ w.heap.size) (ty : TypeId) :
    ∃ v' w', (Builtin.append_ #[22, 22] ty #[v, .slice src xs.length c]).run Try.prog w = .ok v' w' ∧ IntOwn w' B v' (rs ++ xs) ∧ w.grownBy w' v.ownBlock ∧ (v'.ownBlock = v.ownBlock ∨ v'.ownBlock = some w.heap.size) := by
  obtain ⟨j0, hj, hy0, hy1, hy2⟩ := info_parts infoI
  by_cases hn : xs = []
  · subst hn
    refine ⟨v, w, ?_, by simpa using hown, ⟨rfl, rfl, rfl, Nat.le_refl _, fun _ _ _ => rfl⟩, Or.inl rfl⟩
    rcases hown.2 with ⟨rfl, -⟩ | ⟨g, cap, cur, rfl, -, -, h4, -⟩
    · exact run_append_zeroZ w _ _ _ _ Try.underlying22 hj _ _ _ (Nat.le_refl _) _ _
    · exact run_append_zeroZ w _ _ _ _ Try.underlying22 hj _ _ _ h4 _ _
  · obtain ⟨b, o, rfl, hlt, hc⟩ := hsrc hn
    obtain ⟨v', w', h1, h2, h3, -, h5⟩ := run_append_own_at (P := Try.prog) w B 22 ty 2 j0 (.int .i64 0) 1 8 Try.underlying22 hj hy0 hy1 hy2 rfl (by decide) v rs.length (flatI rs) hown ⟨b, o, none⟩ xs.length c (flatI xs) (by simp [flatI])
      (fun j u hj => by
        have hjl : j < xs.length := by
          have := (List.getElem?_eq_some_iff.1 hj).1
          simpa [flatI] using this
        have hf : (flatI xs)[j]? = some (.int .i64 (xs.getD j 0)) := by simp [flatI, List.getD_eq_getElem?_getD, List.getElem?_eq_getElem hjl]
        rw [hf] at hj
        obtain rfl := Option.some.inj hj
        have := hc j hjl
        unfold Addr.add
        by_cases e : j = 0
        · subst e; simpa using this
        · rw [if_neg e]; exact this)
      flatI_one (by unfold maxLen; omega) (by omega) hB
    refine ⟨v', w', h1, ?_, h3, h5⟩
    have : IntOwn w' B v' (rs ++ xs) := by
      unfold IntOwn
      rw [List.length_append, show flatI (rs ++ xs) = flatI rs ++ flatI xs from by simp [flatI]]
      exact h2
    exact this
theorem wp_app_copy (w : World) {o : Oper} {a : Act} {K : Act → World → Prop} {Q : Exit → Act → World → Prop} (s x : Operand) (ho : o.op = .call { callee := .builtin .append, args := #[s, x], argTypes := #[22, 22] })
    (v : Value) (hs : a.eval s = v) (B : Nat) (rs : List Int) (hown : IntOwn w B v rs) (src : Option Addr) (xs : List Int) (c : Nat) (hx : a.eval x = .slice src xs.length c) (hsrc : IntAt src xs w) (hl : rs.length + xs.length ≤ 10000000) (hB : B ≤ w.heap.size)
    (h : ∀ v' w', IntOwn w' B v' (rs ++ xs) → w.grownBy w' v.ownBlock → (v'.ownBlock = v.ownBlock ∨ v'.ownBlock = some w.heap.size) → K (a.put o.dst v') w') : o.wp Try.prog a w K Q := by
  obtain ⟨v', w', hr, h2, h3, h5⟩ := run_app_copy w v B rs hown src xs c hsrc hl hB o.type
  unfold Oper.wp execOp
  simp only [ho, resolve, invoke, builtin, Sem.run_bind, Sem.run_pure, Result.andThen_ok, List.map_toArray, List.map_cons, List.map_nil, hs, hx, hr]
  exact h v' w' h2 h3 h5

theorem wpList_app_copy {ops : Array Oper} {rest : List Oper} (w : World) {o : Oper} {a : Act} {Q : Exit → Act → World → Prop} (hgd : o.guard = none) (s x : Operand) (ho : o.op = .call { callee := .builtin .append, args := #[s, x], argTypes := #[22, 22] })
    (v : Value) (hs : a.eval s = v) (B : Nat) (rs : List Int) (hown : IntOwn w B v rs) (src : Option Addr) (xs : List Int) (c : Nat) (hx : a.eval x = .slice src xs.length c) (hsrc : IntAt src xs w) (hl : rs.length + xs.length ≤ 10000000) (hB : B ≤ w.heap.size)
    (h : ∀ v' w', IntOwn w' B v' (rs ++ xs) → w.grownBy w' v.ownBlock → (v'.ownBlock = v.ownBlock ∨ v'.ownBlock = some w.heap.size) → wpList Try.prog ops Q rest (a.put o.dst v') w') : wpList Try.prog ops Q (o :: rest) a w :=
  wpList_plain hgd fun _ hK => wp_app_copy w s x ho v hs B rs hown src xs c hx hsrc hl hB fun v' w' h2 h3 h5 => hK _ _ (h v' w' h2 h3 h5)

/-- Two rows that are being copied, and a box: objects that stay. -/
structure TwoQ (w : World) (L : List (Nat × Obj)) (B : Nat) (xs ys : List Int) (b0 b1 b2 b3 b4 : Bool) (v0 v1 v2 v3 v4 : Value) (W : World) : Prop where
  hB : w.heap.size ≤ B
  hL : ∀ p ∈ L, p.1 < B
  bel : Below w.heap.size w W
  sz : B ≤ W.heap.size
  sb : ∀ p ∈ L, W.heap[p.1]? = some p.2
  i1 : b1 = true → b0 = true
  i3 : b3 = true → b2 = true
  ox : b0 = true → IntOwn W B (cond b1 v1 v0) (cond b1 xs [])
  oy : b2 = true → IntOwn W B (cond b3 v3 v2) (cond b3 ys [])
  far : b0 = true → b2 = true → Far (cond b1 v1 v0) (cond b3 v3 v2)
  bx : b4 = true → ∃ r, v4 = .pointer (some ⟨r, 0, none⟩) ∧ B ≤ r ∧ W.heap[r]? = some (.cells zCurve 24)
section
variable {w W w2 : World} {L : List (Nat × Obj)} {B : Nat} {xs ys : List Int} {b0 b1 b2 b3 b4 : Bool} {v0 v1 v2 v3 v4 : Value}
theorem TwoQ.swap (h : TwoQ w L B xs ys b0 b1 b2 b3 b4 v0 v1 v2 v3 v4 W) : TwoQ w L B ys xs b2 b3 b0 b1 b4 v2 v3 v0 v1 v4 W :=
  ⟨h.hB, h.hL, h.bel, h.sz, h.sb, h.i3, h.i1, h.oy, h.ox, fun e e' => (h.far e' e).symm, h.bx⟩
theorem TwoQ.start (hB : w.heap.size ≤ B) (hL : ∀ p ∈ L, p.1 < B) (bel : Below w.heap.size w W) (sz : B ≤ W.heap.size) (sb : ∀ p ∈ L, W.heap[p.1]? = some p.2) : TwoQ w L B xs ys false false false false false v0 v1 v2 v3 v4 W :=
  ⟨hB, hL, bel, sz, sb, (fun e => by cases e), (fun e => by cases e), (fun e => by cases e), (fun e => by cases e), (fun e => by cases e), (fun e => by cases e)⟩
theorem TwoQ.step (h : TwoQ w L B xs ys b0 b1 b2 b3 b4 v0 v1 v2 v3 v4 W) (hb : Below W.heap.size W w2) : TwoQ w L B xs ys b0 b1 b2 b3 b4 v0 v1 v2 v3 v4 w2 :=
  ⟨h.hB, h.hL, bStep h.bel hb, Nat.le_trans h.sz hb.size, fun p hp => blk_step (h.sb p hp) hb, h.i1, h.i3, fun e => (h.ox e).step hb, fun e => (h.oy e).step hb, h.far, fun e => by
    obtain ⟨r, e1, e2, e3⟩ := h.bx e
    exact ⟨r, e1, e2, blk_step e3 hb⟩⟩
theorem own_new {W : World} {B : Nat} (hB : B ≤ W.heap.size) : IntOwn (W.alloc (.cells #[] 2)) B (.slice (some ⟨W.heap.size, 0, none⟩) 0 0) [] :=
  ⟨rfl, Or.inr ⟨_, _, _, rfl, hB, blk_new W _, Nat.le_refl _, by decide, rfl, rfl⟩⟩
theorem TwoQ.mk0 (h : TwoQ w L B xs ys false false b2 b3 b4 v0 v1 v2 v3 v4 W) : TwoQ w L B xs ys true false b2 b3 b4 (.slice (some ⟨W.heap.size, 0, none⟩) 0 0) v1 v2 v3 v4 (W.alloc (.cells #[] 2)) := by
  have k := h.step (bAlZ (o := .cells #[] 2))
  exact ⟨k.hB, k.hL, k.bel, k.sz, k.sb, fun _ => rfl, k.i3, fun _ => own_new h.sz, k.oy, fun _ e q e1 e2 => by
    have := ((h.oy e).lt q e2).2
    simp [cond, Value.ownBlock] at e1
    omega, k.bx⟩
theorem own_type {B g : Nat} {v : Value} {xs : List Int} (h : IntOwn W B v xs) (hg : v.ownBlock = some g) : ∃ cur, W.heap[g]? = some (.cells cur 2 (0, 0)) := by
  rcases h.2 with ⟨rfl, -⟩ | ⟨g', cap, cur, rfl, -, h3, -⟩
  · cases hg
  · obtain rfl := Option.some.inj hg
    exact ⟨cur, h3⟩
theorem own_no {B r : Nat} {v : Value} {xs : List Int} {cs : Array Value} (h : IntOwn W B v xs) (hr : W.heap[r]? = some (.cells cs 24)) : some r ≠ v.ownBlock := fun e => by
  obtain ⟨cur, hc⟩ := own_type h e.symm
  rw [hr] at hc
  have := Option.some.inj hc
  injection this with _ h2 _
  revert h2
  decide
theorem TwoQ.mk1 {v' : Value} {w' : World} (h : TwoQ w L B xs ys true false b2 b3 b4 v0 v1 v2 v3 v4 W) (ho : IntOwn w' B v' ([] ++ xs)) (hg : W.grownBy w' v0.ownBlock) (hat : v'.ownBlock = v0.ownBlock ∨ v'.ownBlock = some W.heap.size) : TwoQ w L B xs ys true true b2 b3 b4 v0 v' v2 v3 v4 w' := by
  have hB := h.hB
  have h0 : IntOwn W B v0 [] := h.ox rfl
  have hr := own_ge h0
  have hlt : ∀ b, b < B → some b ≠ v0.ownBlock := fun b hb e => by have := hr _ e.symm; omega
  refine ⟨h.hB, h.hL, h.bel.grown hg (by have := h.bel.size; omega) fun k hk => by have := hr k hk; omega, Nat.le_trans h.sz hg.size, fun p hp => blk_grown (h.sb p hp) hg (hlt _ (h.hL p hp)), fun _ => rfl, h.i3, fun _ => by simpa using ho, fun e => World.ownsRow.kept (h.oy e) hg (h.far rfl e).symm.ne, fun _ e k e1 e2 => ?_, fun e => ?_⟩
  · rcases hat with q | q
    · exact h.far rfl e k (q.symm.trans e1) e2
    · have := ((h.oy e).lt k e2).2
      have e1' : v'.ownBlock = some k := e1
      rw [q] at e1'
      simp at e1'
      omega
  · obtain ⟨r, q1, q2, q3⟩ := h.bx e
    exact ⟨r, q1, q2, blk_grown q3 hg (own_no h0 q3)⟩
theorem TwoQ.mk4 (h : TwoQ w L B xs ys b0 b1 b2 b3 false v0 v1 v2 v3 v4 W) : TwoQ w L B xs ys b0 b1 b2 b3 true v0 v1 v2 v3 (.pointer (some ⟨W.heap.size, 0, none⟩)) (W.alloc (.cells zCurve 24)) := by
  have k := h.step (bAlZ (o := .cells zCurve 24))
  exact ⟨k.hB, k.hL, k.bel, k.sz, k.sb, k.i1, k.i3, k.ox, k.oy, k.far, fun _ => ⟨_, rfl, h.sz, blk_new W _⟩⟩
structure TwoA (w : World) (L : List (Nat × Obj)) (B : Nat) (xs ys : List Int) (b0 b1 b2 b3 b4 b5 : Bool) (v0 v1 v2 v3 v4 v5 : Value) (W : World) : Prop where
  two : TwoQ w L B xs ys b0 b1 b2 b3 b5 v0 v1 v2 v3 v5 W
  ag : b4 = true → v4 = .agg #[v1, v3] ∧ b1 = true ∧ b3 = true
/-- What stands behind: a box with two rows. -/
structure PRow (w : World) (L : List (Nat × Obj)) (r : Nat) (a b : Option Addr) (ca cb : Nat) (xs ys : List Int) (W : World) : Prop where
  bel : Below w.heap.size w W
  sb : ∀ p ∈ L, W.heap[p.1]? = some p.2
  bx : W.heap[r]? = some (.cells #[.slice a xs.length ca, .slice b ys.length cb] 24)
  rx : IntAt a xs W
  ry : IntAt b ys W
theorem PRow.step {r : Nat} {a b : Option Addr} {ca cb : Nat} (h : PRow w L r a b ca cb xs ys W) (hb : Below W.heap.size W w2) : PRow w L r a b ca cb xs ys w2 :=
  ⟨bStep h.bel hb, fun p hp => blk_step (h.sb p hp) hb, blk_step h.bx hb, h.rx.step hb, h.ry.step hb⟩
theorem TwoQ.fin (h : TwoQ w L B xs ys true true true true true v0 v1 v2 v3 v4 W) : ∃ r a b ca cb, v4 = .pointer (some ⟨r, 0, none⟩) ∧ v1 = .slice a xs.length ca ∧ v3 = .slice b ys.length cb ∧ W.heap[r]? = some (.cells zCurve 24) ∧
    PRow w L r a b ca cb xs ys ((W.setCell ⟨r, 0, none⟩ v1).setCell ⟨r, 1, none⟩ v3) := by
  obtain ⟨r, q1, q2, q3⟩ := h.bx rfl
  have hx : IntOwn W B v1 xs := h.ox rfl
  have hy : IntOwn W B v3 ys := h.oy rfl
  have nx := own_no hx q3
  have ny := own_no hy q3
  have hx2 : IntOwn ((W.setCell ⟨r, 0, none⟩ v1).setCell ⟨r, 1, none⟩ v3) B v1 xs := ownsRow_setCell_other (ownsRow_setCell_other hx (Ne.symm nx) _) (Ne.symm nx) _
  have hy2 : IntOwn ((W.setCell ⟨r, 0, none⟩ v1).setCell ⟨r, 1, none⟩ v3) B v3 ys := ownsRow_setCell_other (ownsRow_setCell_other hy (Ne.symm ny) _) (Ne.symm ny) _
  obtain ⟨a, ca, rfl, hra⟩ := hx2.row
  obtain ⟨b, cb, rfl, hrb⟩ := hy2.row
  have hB := h.hB
  exact ⟨r, a, b, ca, cb, q1, rfl, rfl, q3, ⟨(h.bel.setCell (by show w.heap.size ≤ r; omega) _).setCell (by show w.heap.size ≤ r; omega) _, fun p hp => blk_set_other (blk_set_other (h.sb p hp) (by show p.1 ≠ r; have := h.hL p hp; omega)) (by show p.1 ≠ r; have := h.hL p hp; omega), (blk_set (blk_set q3)).trans rfl, hra, hrb⟩⟩
end
end Go.Proofs.Ytngnehlmbipabaa
