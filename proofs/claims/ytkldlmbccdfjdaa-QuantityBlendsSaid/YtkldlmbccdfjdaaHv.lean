/-
  The walk of Halve.
-/
import Derived.Test.YtkldlmbccdfjdaaHalve
set_option linter.unusedSimpArgs false
set_option linter.unusedVariables false
namespace Go.Proofs.Ytkldlmbccdfjdaa
open Go.RowKit

/-- What Halve returns. -/
def halveS (l : List (Int × Int)) (i : Int) : (List (Int × Int) × List (Int × Int)) × Int :=
  if checkB l ≠ 0 then (([], []), checkB l) else if i < 0 ∨ (l.length : Int) ≤ i then (([], []), 3)
  else if (l.getD i.toNat (0, 0)).1 = (l.getD i.toNat (0, 0)).2 then (([], []), 5)
  else ((l.set i.toNat ((l.getD i.toNat (0, 0)).1, ((l.getD i.toNat (0, 0)).1 + (l.getD i.toNat (0, 0)).2) / 2), l.set i.toNat (((l.getD i.toNat (0, 0)).1 + (l.getD i.toNat (0, 0)).2) / 2 + 1, (l.getD i.toNat (0, 0)).2)), 0)

set_option maxHeartbeats 2000000 in
set_option maxRecDepth 20000 in
theorem Halve_row (v : Value) (l : List (Int × Int)) (i : Int) (w : World) (hl : l.length ≤ 1000000) (hi1 : -9223372036854775808 ≤ i) (hi2 : i ≤ 9223372036854775807) (hv : SpRow v l w) :
    Calls Try.prog 32 #[v, .int .i64 i] w fun e w' => ∃ x y, e = .returned (.tuple #[x, y, .int .i64 (halveS l i).2]) ∧ SpRow x (halveS l i).1.1 w' ∧ SpRow y (halveS l i).1.2 w' ∧ Below w.heap.size w w' := by
  have V := Lib.hid (fun w h => CheckBox_row v l w (by omega) h)
  have K := Lib.hid (fun w h => Clone_row v l w hl h)
  have HV := Lib.hid hv
  obtain ⟨a, c, rfl, hA⟩ := hv
  by_cases h1 : checkB l = 0
  · rw [h1] at V
    by_cases h2 : i < 0
    · rw [show halveS l i = (([], []), 3) from by unfold halveS; rw [if_neg (by simp [h1]), if_pos (Or.inl h2)]]
      clear h1 hA
      go_enter Try.func32, Try.ntmps32
      go_wp2_with (go_at_call 19; refine (V.out _ HV.out).mono ?_; rintro e w1 ⟨rfl, hb1⟩)
      exact bodyPost_ret (v := .tuple #[.slice none 0 0, .slice none 0 0, .int .i64 3]) (by simp only [results, Try.results32]; go_simp) rfl ⟨_, _, rfl, SpRow.nil, SpRow.nil, (by repeat' (first | exact Below.refl _ _ | assumption | apply bDrewN | apply bDrew | apply bAlloc | (refine bSet ?_ ?_ _) | (refine bStep ?_ (by assumption)) | omega | (simp <;> omega)))⟩
    · by_cases h3 : (l.length : Int) ≤ i
      · rw [show halveS l i = (([], []), 3) from by unfold halveS; rw [if_neg (by simp [h1]), if_pos (Or.inr h3)]]
        clear h1 hA
        go_enter Try.func32, Try.ntmps32
        go_wp2_with (go_at_call 19; refine (V.out _ HV.out).mono ?_; rintro e w1 ⟨rfl, hb1⟩)
        exact bodyPost_ret (v := .tuple #[.slice none 0 0, .slice none 0 0, .int .i64 3]) (by simp only [results, Try.results32]; go_simp) rfl ⟨_, _, rfl, SpRow.nil, SpRow.nil, (by repeat' (first | exact Below.refl _ _ | assumption | apply bDrewN | apply bDrew | apply bAlloc | (refine bSet ?_ ?_ _) | (refine bStep ?_ (by assumption)) | omega | (simp <;> omega)))⟩
      · obtain ⟨k, rfl⟩ : ∃ k : Nat, i = (k : Int) := ⟨i.toNat, by omega⟩
        have hk : k < l.length := by omega
        have hs := h3
        have hu : halveS l k = if (l.getD k (0, 0)).1 = (l.getD k (0, 0)).2 then (([], []), 5) else ((l.set k ((l.getD k (0, 0)).1, ((l.getD k (0, 0)).1 + (l.getD k (0, 0)).2) / 2), l.set k (((l.getD k (0, 0)).1 + (l.getD k (0, 0)).2) / 2 + 1, (l.getD k (0, 0)).2)), 0) := by
          unfold halveS
          rw [if_neg (by simp [h1]), if_neg (by omega), Int.toNat_natCast]
        rw [hu]
        have hok : okS (l.getD k (0, 0)) = true := by
          have := (checkB_ok.1 h1).2
          rw [List.all_eq_true] at this
          rw [List.getD_eq_getElem?_getD, List.getElem?_eq_getElem hk]
          exact this _ (List.getElem_mem hk)
        have hne : l ≠ [] := fun e => by rw [e] at hk; simp at hk
        obtain ⟨b0, o0, rfl, hc⟩ := hA hne
        have M := Lib.hid (fun w => Middle_any (l.getD k (0, 0)) w)
        rw [middleS_yes hok] at M
        have bd := okS_bd hok
        have q := hc.2 k hk
        have HC := Lib.hid hc
        have SH := Lib.hid (fun (W : World) (g : Nat) (y : Int) (h : SpBlk W g l) => h.setHi (i := k) (y := y) hk)
        have SL := Lib.hid (fun (W : World) (g : Nat) (x : Int) (h : SpBlk W g l) => h.setLo (i := k) (x := x) hk)
        have CE := Lib.hid (fun (W : World) (g : Nat) (h : SpBlk W g l) => h.cells hk)
        have LN : Hid (∀ s : Int × Int, (l.set k s).length = l.length) := fun s => List.length_set
        generalize hx : l.getD k (0, 0) = s at *
        obtain ⟨x1, x2⟩ := s
        dsimp only at *
        obtain ⟨q1, q2⟩ := q
        obtain ⟨bd1, bd2, bd3⟩ := bd
        clear h1 h2 h3 hs hu hok hx hA hc
        generalize hm : (x1 + x2) / 2 = m at *
        have m1 : -1099511627776 ≤ m := by omega
        have m2 : m ≤ 1099511627776 := by omega
        clear hm
        by_cases he : x1 = x2
        · rw [if_pos he]
          subst he
          go_enter Try.func32, Try.ntmps32
          go_wp2_with (first | (go_at_call 19; refine (V.out _ HV.out).mono ?_; rintro e w1 ⟨rfl, hb1⟩; have g1 := cell_step q1 hb1; have g2 := cell_step q2 hb1; clear q1 q2) | (go_at_call 72; refine (M.out _).mono ?_; rintro e w2 ⟨rfl, hb2⟩; have q1 := cell_step g1 hb2; have q2 := cell_step g2 hb2; clear g1 g2))
          go_quiet (fail)
          go_wp2_with fail
          exact bodyPost_ret (v := .tuple #[.slice none 0 0, .slice none 0 0, .int .i64 5]) (by simp only [results, Try.results32]; go_simp) rfl ⟨_, _, rfl, SpRow.nil, SpRow.nil, (by repeat' (first | exact Below.refl _ _ | assumption | apply bDrewN | apply bDrew | apply bAlloc | (refine bSet ?_ ?_ _) | (refine bStep ?_ (by assumption)) | omega | (simp <;> omega)))⟩
        · rw [if_neg he]
          go_enter Try.func32, Try.ntmps32
          go_wp2_with (first | (go_at_call 19; refine (V.out _ HV.out).mono ?_; rintro e w1 ⟨rfl, hb1⟩; have g1 := cell_step q1 hb1; have g2 := cell_step q2 hb1; clear q1 q2; have hx := HV.out.step hb1; clear HV; have HV := Lib.hid hx; clear hx) | (go_at_call 72; refine (M.out _).mono ?_; rintro e w2 ⟨rfl, hb2⟩; have q1 := cell_step g1 hb2; have q2 := cell_step g2 hb2; clear g1 g2; have hx := HV.out.step hb2; clear HV; have HV := Lib.hid hx; clear hx))
          go_quiet (fail)
          go_upto_region 10 with (go_at_call 73; first | (with_reducible refine (K.out _ HV.out).mono ?_; rintro e w4 ⟨y, rfl, oy, hb4⟩) | (refine (K.out _ (HV.out.step (bDrewN (Below.refl _ _)))).mono ?_; rintro e w3 ⟨x, rfl, ox, hb3⟩; have hx := (HV.out.step (bDrewN (Below.refl _ _))).step hb3; clear HV; have HV := Lib.hid hx; clear hx))
          obtain ⟨gx, cx, rfl, hgx, kx⟩ := ox.blk hne
          obtain ⟨gy, cy, rfl, hgy, ky⟩ := oy.blk hne
          have lx : gx < w3.heap.size := cell_lt (CE.out _ _ kx).1
          have kx4 := kx.step hb4
          obtain ⟨c1, c2, c3, c4⟩ := CE.out _ _ kx4
          obtain ⟨c5, c6, c7, c8⟩ := CE.out _ _ ky
          have n1 : gx ≠ gy := by omega
          have n2 : gy ≠ gx := by omega
          have kB : Below w.heap.size w w4 := (by repeat' (first | exact Below.refl _ _ | assumption | apply bDrewN | apply bDrew | apply bAlloc | (refine bSet ?_ ?_ _) | (refine bStep ?_ (by assumption)) | omega | (simp <;> omega)))
          have g1 : w.heap.size ≤ gx := by have := hb1.size; have := hb2.size; have h4 := hgx; simp at h4; omega
          have g2 : w.heap.size ≤ gy := by omega
          clear HV K M CE ox oy hb1 hb2 hb3 hb4 hgx hgy
          have KX := Lib.hid kx4
          have KY := Lib.hid ky
          clear kx kx4 ky q1 q2 HC
          go_wp2_with fail
          exact bodyPost_ret (v := .tuple #[.slice (some ⟨gx, 0, none⟩) l.length cx, .slice (some ⟨gy, 0, none⟩) l.length cy, .int .i64 0]) (by simp only [results, Try.results32]; go_simp) rfl ⟨_, _, rfl, ⟨some ⟨gx, 0, none⟩, cx, by rw [LN.out], ((SH.out _ _ _ KX.out).far n1).at_⟩, ⟨some ⟨gy, 0, none⟩, cy, by rw [LN.out], (SL.out _ _ _ (KY.out.far n2)).at_⟩, bSet (bSet kB g1 _) g2 _⟩
  · rw [show halveS l i = (([], []), checkB l) from if_pos h1]
    generalize checkB l = z at *
    clear hA
    go_enter Try.func32, Try.ntmps32
    go_wp2_with (go_at_call 19; refine (V.out _ HV.out).mono ?_; rintro e w1 ⟨rfl, hb1⟩)
    exact bodyPost_ret (v := .tuple #[.slice none 0 0, .slice none 0 0, .int .i64 z]) (by simp only [results, Try.results32]; go_simp) rfl ⟨_, _, rfl, SpRow.nil, SpRow.nil, (by repeat' (first | exact Below.refl _ _ | assumption | apply bDrewN | apply bDrew | apply bAlloc | (refine bSet ?_ ?_ _) | (refine bStep ?_ (by assumption)) | omega | (simp <;> omega)))⟩

end Go.Proofs.Ytkldlmbccdfjdaa
