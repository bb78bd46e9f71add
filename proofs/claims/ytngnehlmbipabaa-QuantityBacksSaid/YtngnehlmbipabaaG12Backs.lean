/-
  The walk of Halve.
-/
import Derived.Test.YtngnehlmbipabaaG11Backs
import Derived.Test.YtngnehlmbipabaaG9Backs
set_option linter.unusedSimpArgs false
set_option linter.unusedVariables false
namespace Go.Proofs.Ytngnehlmbipabaa
open Go.RowKit

/-- What Halve returns. -/
def halveS (l : List (Int × Int)) (i : Int) : (List (Int × Int) × List (Int × Int)) × Int :=
  if checkB l ≠ 0 then (([], []), checkB l) else if i < 0 ∨ (l.length : Int) ≤ i then (([], []), 3)
  else if (l.getD i.toNat (0, 0)).1 = (l.getD i.toNat (0, 0)).2 then (([], []), 5)
  else ((l.set i.toNat ((l.getD i.toNat (0, 0)).1, ((l.getD i.toNat (0, 0)).1 + (l.getD i.toNat (0, 0)).2) / 2), l.set i.toNat (((l.getD i.toNat (0, 0)).1 + (l.getD i.toNat (0, 0)).2) / 2 + 1, (l.getD i.toNat (0, 0)).2)), 0)

set_option maxHeartbeats 2000000 in
set_option maxRecDepth 20000 in
theorem Halve_row (v : Value) (l : List (Int × Int)) (i : Int) (w : World) (hl : l.length ≤ 1000000) (hi1 : -9223372036854775808 ≤ i) (hi2 : i ≤ 9223372036854775807) (hv : SpRow v l w) :
    Calls Try.prog 32 #[v, .int .i64 i] w fun e w' => ∃ x y, e = .returned (.tuple #[x, y, .int .i64 (halveS l i).2]) ∧ SpRow x (halveS l i).1.1 w' ∧ SpRow y (halveS l i).1.2 w' ∧ Below w.heap.size w w' := by
  have V := Lib.hid (fun w h => CheckBox_row v l w (by omega) h)
  have K := Lib.hid (fun w h => Clone_row v l w hl h)
  have HV := Lib.hid hv
  obtain ⟨a, c, rfl, hA⟩ := hv
  by_cases h1 : checkB l = 0
  · rw [h1] at V
    by_cases h2 : i < 0
    · rw [show halveS l i = (([], []), 3) from by unfold halveS; rw [if_neg (by simp [h1]), if_pos (Or.inl h2)]]
      clear h1 hA
      go_enter Try.func32, Try.ntmps32
      go_wp2_with (go_at_call 19; refine (V.out _ HV.out).mono ?_; rintro e w1 ⟨rfl, hb1⟩)
      exact bodyPost_ret (v := .tuple #[.slice none 0 0, .slice none 0 0, .int .i64 3]) (by simp only [results, Try.results32]; go_simp) rfl ⟨_, _, rfl, SpRow.nil, SpRow.nil, (by repeat' (first | exact Below.refl _ _ | assumption | apply bDrewN | apply bDrew | apply bAlloc | (refine bSet ?_ ?_ _) | (refine bStep ?_ (by assumption)) | omega | (simp <;> omega)))⟩
    · by_cases h3 : (l.length : Int) ≤ i
      · rw [show halveS l i = (([], []), 3) from by unfold halveS; rw [if_neg (by simp [h1]), if_pos (Or.inr h3)]]
        clear h1 hA
        go_enter Try.func32, Try.ntmps32
        go_wp2_with (go_at_call 19; refine (V.out _ HV.out).mono ?_; rintro e w1 ⟨rfl, hb1⟩)
        exact bodyPost_ret (v := .tuple #[.slice none 0 0, .slice none 0 0, .int .i64 3]) (by simp only [results, Try.results32]; go_simp) rfl ⟨_, _, rfl, SpRow.nil, SpRow.nil, (by repeat' (first | exact Below.refl _ _ | assumption | apply bDrewN | apply bDrew | apply bAlloc | (refine bSet ?_ ?_ _) | (refine bStep ?_ (by assumption)) | omega | (simp <;> omega)))⟩
      · obtain ⟨k, rfl⟩ : ∃ k : Nat, i = (k : Int) := ⟨i.toNat, by omega⟩
        have hk : k < l.length := by omega
        have hs := h3
        have hu : halveS l k = if (l.getD k (0, 0)).1 = (l.getD k (0, 0)).2 then (([], []), 5) else ((l.set k ((l.getD k (0, 0)).1, ((l.getD k (0, 0)).1 + (l.getD k (0, 0)).2) / 2), l.set k (((l.getD k (0, 0)).1 + (l.getD k (0, 0)).2) / 2 + 1, (l.getD k (0, 0)).2)), 0) := by
          unfold halveS
          rw [if_neg (by simp [h1]), if_neg (by omega), Int.toNat_natCast]
        rw [hu]
        have hok : okS (l.getD k (0, 0)) = true := by
          have := (checkB_ok.1 h1).2
          rw [List.all_eq_true] at this
          rw [List.getD_eq_getElem?_getD, List.getElem?_eq_getElem hk]
          exact this _ (List.getElem_mem hk)
        have hne : l ≠ [] := fun e => by rw [e] at hk; simp at hk
        obtain ⟨b0, o0, rfl, hc⟩ := hA hne
        have M := Lib.hid (fun w => Middle_any (l.getD k (0, 0)) w)
        rw [middleS_yes hok] at M
        have bd := okS_bd hok
        have q := hc.2 k hk
        have HC := Lib.hid hc
        have SH := Lib.hid (fun (W : World) (g : Nat) (y : Int) (h : SpBlk W g l) => h.setHi (i := k) (y := y) hk)
        have SL := Lib.hid (fun (W : World) (g : Nat) (x : Int) (h : SpBlk W g l) => h.setLo (i := k) (x := x) hk)
        have CE := Lib.hid (fun (W : World) (g : Nat) (h : SpBlk W g l) => h.cells hk)
        have LN : Hid (∀ s : Int × Int, (l.set k s).length = l.length) := fun s => List.length_set
        generalize hx : l.getD k (0, 0) = s at *
        obtain ⟨x1, x2⟩ := s
        dsimp only at *
        obtain ⟨q1, q2⟩ := q
        obtain ⟨bd1, bd2, bd3⟩ := bd
        clear h1 h2 h3 hs hu hok hx hA hc
        generalize hm : (x1 + x2) / 2 = m at *
        have m1 : -1099511627776 ≤ m := by omega
        have m2 : m ≤ 1099511627776 := by omega
        clear hm
        by_cases he : x1 = x2
        · rw [if_pos he]
          subst he
          go_enter Try.func32, Try.ntmps32
          go_wp2_with (first | (go_at_call 19; refine (V.out _ HV.out).mono ?_; rintro e w1 ⟨rfl, hb1⟩; have g1 := cell_step q1 hb1; have g2 := cell_step q2 hb1; clear q1 q2) | (go_at_call 72; refine (M.out _).mono ?_; rintro e w2 ⟨rfl, hb2⟩; have q1 := cell_step g1 hb2; have q2 := cell_step g2 hb2; clear g1 g2))
          go_quiet (fail)
          go_wp2_with fail
          exact bodyPost_ret (v := .tuple #[.slice none 0 0, .slice none 0 0, .int .i64 5]) (by simp only [results, Try.results32]; go_simp) rfl ⟨_, _, rfl, SpRow.nil, SpRow.nil, (by repeat' (first | exact Below.refl _ _ | assumption | apply bDrewN | apply bDrew | apply bAlloc | (refine bSet ?_ ?_ _) | (refine bStep ?_ (by assumption)) | omega | (simp <;> omega)))⟩
        · rw [if_neg he]
          go_enter Try.func32, Try.ntmps32
          go_wp2_with (first | (go_at_call 19; refine (V.out _ HV.out).mono ?_; rintro e w1 ⟨rfl, hb1⟩; have g1 := cell_step q1 hb1; have g2 := cell_step q2 hb1; clear q1 q2; have hx := HV.out.step hb1; clear HV; have HV := Lib.hid hx; clear hx) | (go_at_call 72; refine (M.out _).mono ?_; rintro e w2 ⟨rfl, hb2⟩; have q1 := cell_step g1 hb2; have q2 := cell_step g2 hb2; clear g1 g2; have hx := HV.out.step hb2; clear HV; have HV := Lib.hid hx; clear hx))
          go_quiet (fail)
          go_upto_region 10 with (go_at_call 73; first | (with_reducible refine (K.out _ HV.out).mono ?_; rintro e w4 ⟨y, rfl, oy, hb4⟩) | (refine (K.out _ (HV.out.step (bDrewN (Below.refl _ _)))).mono ?_; rintro e w3 ⟨x, rfl, ox, hb3⟩; have hx := (HV.out.step (bDrewN (Below.refl _ _))).step hb3; clear HV; have HV := Lib.hid hx; clear hx))
          obtain ⟨gx, cx, rfl, hgx, kx⟩ := ox.blk hne
          obtain ⟨gy, cy, rfl, hgy, ky⟩ := oy.blk hne
          have lx : gx < w3.heap.size := cell_lt (CE.out _ _ kx).1
          have kx4 := kx.step hb4
          obtain ⟨c1, c2, c3, c4⟩ := CE.out _ _ kx4
          obtain ⟨c5, c6, c7, c8⟩ := CE.out _ _ ky
          have n1 : gx ≠ gy := by omega
          have n2 : gy ≠ gx := by omega
          have kB : Below w.heap.size w w4 := (by repeat' (first | exact Below.refl _ _ | assumption | apply bDrewN | apply bDrew | apply bAlloc | (refine bSet ?_ ?_ _) | (refine bStep ?_ (by assumption)) | omega | (simp <;> omega)))
          have g1 : w.heap.size ≤ gx := by have := hb1.size; have := hb2.size; have h4 := hgx; simp at h4; omega
          have g2 : w.heap.size ≤ gy := by omega
          clear HV K M CE ox oy hb1 hb2 hb3 hb4 hgx hgy
          have KX := Lib.hid kx4
          have KY := Lib.hid ky
          clear kx kx4 ky q1 q2 HC
          go_wp2_with fail
          exact bodyPost_ret (v := .tuple #[.slice (some ⟨gx, 0, none⟩) l.length cx, .slice (some ⟨gy, 0, none⟩) l.length cy, .int .i64 0]) (by simp only [results, Try.results32]; go_simp) rfl ⟨_, _, rfl, ⟨some ⟨gx, 0, none⟩, cx, by rw [LN.out], ((SH.out _ _ _ KX.out).far n1).at_⟩, ⟨some ⟨gy, 0, none⟩, cy, by rw [LN.out], (SL.out _ _ _ (KY.out.far n2)).at_⟩, bSet (bSet kB g1 _) g2 _⟩
  · rw [show halveS l i = (([], []), checkB l) from if_pos h1]
    generalize checkB l = z at *
    clear hA
    go_enter Try.func32, Try.ntmps32
    go_wp2_with (go_at_call 19; refine (V.out _ HV.out).mono ?_; rintro e w1 ⟨rfl, hb1⟩)
    exact bodyPost_ret (v := .tuple #[.slice none 0 0, .slice none 0 0, .int .i64 z]) (by simp only [results, Try.results32]; go_simp) rfl ⟨_, _, rfl, SpRow.nil, SpRow.nil, (by repeat' (first | exact Below.refl _ _ | assumption | apply bDrewN | apply bDrew | apply bAlloc | (refine bSet ?_ ?_ _) | (refine bStep ?_ (by assumption)) | omega | (simp <;> omega)))⟩

end Go.Proofs.Ytngnehlmbipabaa

/-
  The walks of pairs over Meet and Hull, BoxMeet, BoxHull.
-/
set_option linter.unusedSimpArgs false
set_option linter.unusedVariables false
namespace Go.Proofs.Ytngnehlmbipabaa
open Go.RowKit

abbrev SpF := Int × Int → Int × Int → (Int × Int) × Int
def gAt (g : SpF) (l m : List (Int × Int)) (k : Nat) : (Int × Int) × Int := g (l.getD k (0, 0)) (m.getD k (0, 0))
def firstErr (g : SpF) (l m : List (Int × Int)) : Int := match (List.range l.length).find? (fun k => decide ((gAt g l m k).2 ≠ 0)) with | some k => (gAt g l m k).2 | none => 0
def outs (g : SpF) (l m : List (Int × Int)) (n : Nat) : List (Int × Int) := (List.range n).map fun k => (gAt g l m k).1
/-- What pairs returns. -/
def pairsS (g : SpF) (l m : List (Int × Int)) : List (Int × Int) × Int :=
  if 8 < max l.length m.length then ([], 6) else if ¬ (l.all okS = true ∧ m.all okS = true) then ([], 2) else if l.length ≠ m.length then ([], 20)
  else if firstErr g l m = 0 then (outs g l m l.length, 0) else ([], firstErr g l m)
theorem firstErr_at {g : SpF} {l m : List (Int × Int)} {k : Nat} (hk : k < l.length) (h0 : ∀ j, j < k → (gAt g l m j).2 = 0) (h1 : (gAt g l m k).2 ≠ 0) : firstErr g l m = (gAt g l m k).2 := by
  have : (List.range l.length).find? (fun k => decide ((gAt g l m k).2 ≠ 0)) = some k := by
    rw [List.find?_range_eq_some]
    refine ⟨by simpa using h1, by simpa using hk, fun j hj => ?_⟩
    simp [h0 j hj]
  unfold firstErr
  rw [this]
theorem firstErr_none {g : SpF} {l m : List (Int × Int)} (h0 : ∀ j, j < l.length → (gAt g l m j).2 = 0) : firstErr g l m = 0 := by
  have : (List.range l.length).find? (fun k => decide ((gAt g l m k).2 ≠ 0)) = none := by
    rw [List.find?_eq_none]
    intro k hk
    simp [h0 k (by simpa using hk)]
  unfold firstErr
  rw [this]
theorem outs_len (g : SpF) (l m : List (Int × Int)) (n : Nat) : (outs g l m n).length = n := by simp [outs]
theorem outs_succ (g : SpF) (l m : List (Int × Int)) (n : Nat) : outs g l m (n + 1) = outs g l m n ++ [(gAt g l m n).1] := by simp [outs, List.range_succ]

set_option maxHeartbeats 4000000 in
set_option maxRecDepth 20000 in
theorem pairs_meet (v u : Value) (ls m : List (Int × Int)) (w : World) (hl : ls.length ≤ 1000000) (hm : m.length ≤ 1000000) (hv : SpRow v ls w) (hu : SpRow u m w) :
    Calls Try.prog 66 #[v, u, .func (.func 67) #[] #[]] w fun e w' => ∃ x, e = .returned (.tuple #[x, .int .i64 (pairsS meetS ls m).2]) ∧ SpRow x (pairsS meetS ls m).1 w' ∧ Below w.heap.size w w' := by
  have V := Lib.hid (fun w h => valid_row v ls w (by omega) h)
  have U := Lib.hid (fun w h => valid_row u m w (by omega) h)
  have G := Lib.hid Meet_any
  have HV := Lib.hid hv
  have HU := Lib.hid hu
  obtain ⟨a, ca, rfl, hA⟩ := hv
  obtain ⟨b, cb, rfl, hB⟩ := hu
  by_cases h8 : 8 < max ls.length m.length
  · have hr : pairsS meetS ls m = ([], 6) := if_pos h8
    rw [hr]
    have h8' : 8 < max (ls.length : Int) (m.length : Int) := by omega
    have e1 : (if ls.length < m.length then (m.length : Int) else (ls.length : Int)) = max (ls.length : Int) (m.length : Int) := by split <;> omega
    generalize max (ls.length : Int) (m.length : Int) = M at *
    clear hr h8 hl hm hA hB
    go_enter Try.func66, Try.ntmps66
    go_wp2_with fail
    go_ret2
    exact ⟨_, rfl, SpRow.nil, (by repeat' (first | exact Below.refl _ _ | assumption | apply bDrewN | apply bDrew | apply bAlloc | (refine bSet ?_ ?_ _) | (refine bStep ?_ (by assumption)) | omega | (simp <;> omega)))⟩
  have h8' : max (ls.length : Int) (m.length : Int) ≤ 8 := by omega
  have e1 : (if ls.length < m.length then (m.length : Int) else (ls.length : Int)) = max (ls.length : Int) (m.length : Int) := by split <;> omega
  have hL8 : ls.length ≤ 8 := by omega
  generalize hMM : max (ls.length : Int) (m.length : Int) = M at *
  clear hMM
  by_cases h1 : ls.all okS = true
  · by_cases h2 : m.all okS = true
    · rw [h1] at V
      rw [h2] at U
      by_cases h3 : ls.length = m.length
      · have hp : pairsS meetS ls m = if firstErr meetS ls m = 0 then (outs meetS ls m ls.length, 0) else ([], firstErr meetS ls m) := by
          unfold pairsS
          rw [if_neg h8, if_neg (fun h => h ⟨h1, h2⟩), if_neg (fun h => h h3)]
        have HP := Lib.hid hp
        clear hp
        generalize pairsS meetS ls m = R at *
        have H3 := Lib.hid h3
        rw [← h3] at U HU e1 ⊢
        have HA := Lib.hid hA
        have HB := Lib.hid hB
        obtain ⟨i0, hi, hz0, hz1, hz2⟩ := info_parts infoSp
        clear h1 h2 h8 hl hm h3 hA hB
        go_enter Try.func66, Try.ntmps66
        go_upto_region 9 with (go_at_call 54; first | (with_reducible refine (V.out _ HV.out).mono ?_; rintro e w1 ⟨rfl, hb1⟩; have hx := HU.out.step hb1; clear HU; have HU := Lib.hid hx; clear hx) | (with_reducible refine (U.out _ HU.out).mono ?_; rintro e w2 ⟨rfl, hb2⟩) | fail)
        have kB : Below w.heap.size w w2 := bStep hb1 hb2
        clear V U HV HU hb1 hb2
        go_loopw [8, 33] (fun o i wr => ∃ k : Nat, k ≤ ls.length ∧ i = .int .i64 k ∧ Below w.heap.size w wr ∧ Hid (SpOwn wr w.heap.size o (outs meetS ls m k)) ∧ Hid (∀ j, j < k → (gAt meetS ls m j).2 = 0)) (fun _ i _ => ls.length - (intOf i).toNat)
        case atStart => exact ⟨0, by omega, rfl, kB, SpOwn.nil, fun j hj => by omega⟩
        case round =>
          clear kB
          obtain ⟨k, hk, rfl, kB, HO, HI⟩ := hrel
          by_cases hlt : k < ls.length
          · have hlt2 : k < m.length := by rw [← H3.out]; exact hlt
            obtain ⟨bu, ou, rfl, hc⟩ := (HA.out.step kB) (fun h => by rw [h] at hlt; simp at hlt)
            obtain ⟨bv, ov, rfl, hd⟩ := (HB.out.step kB) (fun h => by rw [h] at hlt2; simp at hlt2)
            obtain ⟨q1, q2⟩ := hc.at_ hlt
            obtain ⟨q3, q4⟩ := hd.at_ hlt2
            have hgk : ls.getD k (0, 0) = ls[k] := by simp [List.getD, List.getElem?_eq_getElem hlt]
            have hgm : m.getD k (0, 0) = m[k] := by simp [List.getD, List.getElem?_eq_getElem hlt2]
            have GK := Lib.hid (fun w => G.out (ls[k]) (m[k]) w)
            have hat : gAt meetS ls m k = meetS (ls[k]) (m[k]) := by unfold gAt; rw [hgk, hgm]
            have HI2 : Hid ((meetS (ls[k]) (m[k])).2 = 0 → ∀ j, j < k + 1 → (gAt meetS ls m j).2 = 0) := by
              intro h j hj
              rcases Nat.lt_or_ge j k with h' | h'
              · exact HI.out j h'
              · obtain rfl : j = k := by omega
                rw [hat]; exact h
            have HN2 : Hid ((meetS (ls[k]) (m[k])).2 ≠ 0 → R = ([], (meetS (ls[k]) (m[k])).2)) := by
              intro h
              rw [← hat] at h ⊢
              rw [HP.out, firstErr_at hlt HI.out h, if_neg h]
            have HX := Lib.hid (outs_succ meetS ls m k)
            rw [hat] at HX
            have HL := Lib.hid (outs_len meetS ls m k)
            have HC := Lib.hid (Cs.cons (Cs.cons (Cs.cons (Cs.cons (Cs.nil (Nat.le_refl _) (Below.refl wr.heap.size wr)) q4 hd.1) q3 hd.1) q2 hc.1) q1 hc.1)
            generalize meetS (ls[k]) (m[k]) = z at *
            generalize outs meetS ls m k = O at *
            clear hc hd hgk hgm HP HI G hat H3
            generalize ls[k] = x at *
            generalize m[k] = y at *
            obtain ⟨x1, x2⟩ := x
            obtain ⟨y1, y2⟩ := y
            obtain ⟨⟨z1, z2⟩, e⟩ := z
            dsimp only at *
            go_upto_region 11 with fail
            generalize hA0 : (Act.mk _ _) = A0
            refine region_inv (by kernel_rfl) (by kernel_rfl) (fun l a W => ∃ (b0 b1 b2 b3 b4 b5 b6 b7 b8 b9 b10 b11 b12 b13 b14 b15 : Bool) (v37 v38 v39 v40 v41 v42 v43 v44 v45 v46 v36 v47 v48 v10 v11 : Value), l = #[b0, b1, b2, b3, b4, b5, b6, b7, b8, b9, b10, b11, b12, b13, b14, b15] ∧ a = updAll A0 [(37, v37), (38, v38), (39, v39), (40, v40), (41, v41), (42, v42), (43, v43), (44, v44), (45, v45), (46, v46), (36, v36), (47, v47), (48, v48), (10, v10), (11, v11)] ∧ (b0 = true → v37 = (.func (.func 67) #[] #[])) ∧ (b1 = true → v38 = (.slice (some ⟨bu, ou, none⟩) ls.length ca)) ∧ (b2 = true → v39 = (.int .i64 k)) ∧ (b3 = true → v40 = (.pointer (some ⟨bu, ou + k * 2, none⟩))) ∧ (b4 = true → v41 = (.agg #[.int .i64 x1, .int .i64 x2])) ∧ (b5 = true → v42 = (.slice (some ⟨bv, ov, none⟩) ls.length cb)) ∧ (b6 = true → v43 = (.int .i64 k)) ∧ (b7 = true → v44 = (.pointer (some ⟨bv, ov + k * 2, none⟩))) ∧ (b8 = true → v45 = (.agg #[.int .i64 y1, .int .i64 y2])) ∧ (b9 = true → v46 = (.tuple #[.agg #[.int .i64 z1, .int .i64 z2], .int .i64 e])) ∧ (b10 = true → v36 = (.tuple #[.agg #[.int .i64 z1, .int .i64 z2], .int .i64 e])) ∧ (b11 = true → v47 = (.agg #[.int .i64 z1, .int .i64 z2])) ∧ (b12 = true → v48 = (.int .i64 e)) ∧ (b15 = true → v11 = (.int .i64 e)) ∧ (b13 = false → b14 = false) ∧ Cs wr wr.heap.size [(bu, ou + k * 2, .int .i64 x1), (bu, ou + k * 2 + 1, .int .i64 x2), (bv, ov + k * 2, .int .i64 y1), (bv, ov + k * 2 + 1, .int .i64 y2)] W ∧ wr.heap.size ≤ W.heap.size ∧ BoxF b13 b14 v10 (wr.heap.size) #[.int .i64 0, .int .i64 0] #[.int .i64 z1, .int .i64 z2] 40 W) ?h0 ?hsz ?step ?done
            case h0 =>
              refine ⟨false, false, false, false, false, false, false, false, false, false, false, false, false, false, false, false, A0.tmps.getD 37 undef, A0.tmps.getD 38 undef, A0.tmps.getD 39 undef, A0.tmps.getD 40 undef, A0.tmps.getD 41 undef, A0.tmps.getD 42 undef, A0.tmps.getD 43 undef, A0.tmps.getD 44 undef, A0.tmps.getD 45 undef, A0.tmps.getD 46 undef, A0.tmps.getD 36 undef, A0.tmps.getD 47 undef, A0.tmps.getD 48 undef, A0.tmps.getD 10 undef, A0.tmps.getD 11 undef, by rfl, ?_, by simp, by simp, by simp, by simp, by simp, by simp, by simp, by simp, by simp, by simp, by simp, by simp, by simp, by simp, by simp, HC.out.drew, (by first | omega | (simp; omega) | simp), BoxF.no⟩
              rw [← hA0]
              simp [updAll, Act.put]
            case hsz =>
              rintro l a W ⟨b0, b1, b2, b3, b4, b5, b6, b7, b8, b9, b10, b11, b12, b13, b14, b15, v37, v38, v39, v40, v41, v42, v43, v44, v45, v46, v36, v47, v48, v10, v11, rfl, -⟩
              rfl
            case step =>
              intro iop oop hopi lst act W hInv hlst hdep
              obtain ⟨b0, b1, b2, b3, b4, b5, b6, b7, b8, b9, b10, b11, b12, b13, b14, b15, v37, v38, v39, v40, v41, v42, v43, v44, v45, v46, v36, v47, v48, v10, v11, rfl, rfl, f0, f1, f2, f3, f4, f5, f6, f7, f8, f9, f10, f11, f12, f15, g13, hM, hz, x13⟩ := hInv
              have hi8 : iop < 16 := (Array.getElem?_eq_some_iff.1 hopi).1
              have hi9 : iop = 0 ∨ iop = 1 ∨ iop = 2 ∨ iop = 3 ∨ iop = 4 ∨ iop = 5 ∨ iop = 6 ∨ iop = 7 ∨ iop = 8 ∨ iop = 9 ∨ iop = 10 ∨ iop = 11 ∨ iop = 12 ∨ iop = 13 ∨ iop = 14 ∨ iop = 15 := by omega
              rcases hi9 with rfl | rfl | rfl | rfl | rfl | rfl | rfl | rfl | rfl | rfl | rfl | rfl | rfl | rfl | rfl | rfl
              · obtain rfl : b0 = false := by simpa using hlst
                obtain rfl := Option.some.inj (show some _ = some oop from hopi)
                refine step_to (a' := (updAll A0 [(37, v37), (38, v38), (39, v39), (40, v40), (41, v41), (42, v42), (43, v43), (44, v44), (45, v45), (46, v46), (36, v36), (47, v47), (48, v48), (10, v10), (11, v11)]).put (some 37) ((.func (.func 67) #[] #[]))) (w' := W) ?_ ?_
                · intro K' hK'
                  subst hA0
                  have c0 := hM.at_ (show (bu, ou + k * 2, .int .i64 x1) ∈ _ from by simp); have c1 := hM.at_ (show (bu, ou + k * 2 + 1, .int .i64 x2) ∈ _ from by simp); have c2 := hM.at_ (show (bv, ov + k * 2, .int .i64 y1) ∈ _ from by simp); have c3 := hM.at_ (show (bv, ov + k * 2 + 1, .int .i64 y2) ∈ _ from by simp)
                  refine wpOp_plain rfl rfl ?_
                  simp only [updAll, Act.put, List.setIfInBounds_toArray, List.set_cons_zero, List.set_cons_succ] at hK' ⊢
                  go_wp2
                  exact hK'
                · refine ⟨true, b1, b2, b3, b4, b5, b6, b7, b8, b9, b10, b11, b12, b13, b14, b15, _, v38, v39, v40, v41, v42, v43, v44, v45, v46, v36, v47, v48, v10, v11, by rfl, ?_, fun _ => rfl, f1, f2, f3, f4, f5, f6, f7, f8, f9, f10, f11, f12, f15, g13, hM, hz, x13⟩
                  rw [← hA0]
                  simp [updAll, Act.put]
              · obtain rfl : b1 = false := by simpa using hlst
                obtain rfl := Option.some.inj (show some _ = some oop from hopi)
                refine step_to (a' := (updAll A0 [(37, v37), (38, v38), (39, v39), (40, v40), (41, v41), (42, v42), (43, v43), (44, v44), (45, v45), (46, v46), (36, v36), (47, v47), (48, v48), (10, v10), (11, v11)]).put (some 38) ((.slice (some ⟨bu, ou, none⟩) ls.length ca))) (w' := W) ?_ ?_
                · intro K' hK'
                  subst hA0
                  have c0 := hM.at_ (show (bu, ou + k * 2, .int .i64 x1) ∈ _ from by simp); have c1 := hM.at_ (show (bu, ou + k * 2 + 1, .int .i64 x2) ∈ _ from by simp); have c2 := hM.at_ (show (bv, ov + k * 2, .int .i64 y1) ∈ _ from by simp); have c3 := hM.at_ (show (bv, ov + k * 2 + 1, .int .i64 y2) ∈ _ from by simp)
                  refine wpOp_plain rfl rfl ?_
                  simp only [updAll, Act.put, List.setIfInBounds_toArray, List.set_cons_zero, List.set_cons_succ] at hK' ⊢
                  go_wp2
                  exact hK'
                · refine ⟨b0, true, b2, b3, b4, b5, b6, b7, b8, b9, b10, b11, b12, b13, b14, b15, v37, _, v39, v40, v41, v42, v43, v44, v45, v46, v36, v47, v48, v10, v11, by rfl, ?_, f0, fun _ => rfl, f2, f3, f4, f5, f6, f7, f8, f9, f10, f11, f12, f15, g13, hM, hz, x13⟩
                  rw [← hA0]
                  simp [updAll, Act.put]
              · obtain rfl : b2 = false := by simpa using hlst
                obtain rfl := Option.some.inj (show some _ = some oop from hopi)
                refine step_to (a' := (updAll A0 [(37, v37), (38, v38), (39, v39), (40, v40), (41, v41), (42, v42), (43, v43), (44, v44), (45, v45), (46, v46), (36, v36), (47, v47), (48, v48), (10, v10), (11, v11)]).put (some 39) ((.int .i64 k))) (w' := W) ?_ ?_
                · intro K' hK'
                  subst hA0
                  have c0 := hM.at_ (show (bu, ou + k * 2, .int .i64 x1) ∈ _ from by simp); have c1 := hM.at_ (show (bu, ou + k * 2 + 1, .int .i64 x2) ∈ _ from by simp); have c2 := hM.at_ (show (bv, ov + k * 2, .int .i64 y1) ∈ _ from by simp); have c3 := hM.at_ (show (bv, ov + k * 2 + 1, .int .i64 y2) ∈ _ from by simp)
                  refine wpOp_plain rfl rfl ?_
                  simp only [updAll, Act.put, List.setIfInBounds_toArray, List.set_cons_zero, List.set_cons_succ] at hK' ⊢
                  go_wp2
                  exact hK'
                · refine ⟨b0, b1, true, b3, b4, b5, b6, b7, b8, b9, b10, b11, b12, b13, b14, b15, v37, v38, _, v40, v41, v42, v43, v44, v45, v46, v36, v47, v48, v10, v11, by rfl, ?_, f0, f1, fun _ => rfl, f3, f4, f5, f6, f7, f8, f9, f10, f11, f12, f15, g13, hM, hz, x13⟩
                  rw [← hA0]
                  simp [updAll, Act.put]
              · obtain rfl : b3 = false := by simpa using hlst
                obtain rfl := Option.some.inj (show some _ = some oop from hopi)
                obtain rfl : b1 = true := by
                  rcases Bool.eq_false_or_eq_true b1 with hbb | hbb
                  · exact hbb
                  · exfalso; subst hbb; revert hdep; simp [Region.binds]
                obtain rfl : b2 = true := by
                  rcases Bool.eq_false_or_eq_true b2 with hbb | hbb
                  · exact hbb
                  · exfalso; subst hbb; revert hdep; simp [Region.binds]
                have e1 := f1 rfl
                subst e1
                have e2 := f2 rfl
                subst e2
                refine step_to (a' := (updAll A0 [(37, v37), (38, (.slice (some ⟨bu, ou, none⟩) ls.length ca)), (39, (.int .i64 k)), (40, v40), (41, v41), (42, v42), (43, v43), (44, v44), (45, v45), (46, v46), (36, v36), (47, v47), (48, v48), (10, v10), (11, v11)]).put (some 40) ((.pointer (some ⟨bu, ou + k * 2, none⟩)))) (w' := W) ?_ ?_
                · intro K' hK'
                  subst hA0
                  have c0 := hM.at_ (show (bu, ou + k * 2, .int .i64 x1) ∈ _ from by simp); have c1 := hM.at_ (show (bu, ou + k * 2 + 1, .int .i64 x2) ∈ _ from by simp); have c2 := hM.at_ (show (bv, ov + k * 2, .int .i64 y1) ∈ _ from by simp); have c3 := hM.at_ (show (bv, ov + k * 2 + 1, .int .i64 y2) ∈ _ from by simp)
                  refine wpOp_plain rfl rfl ?_
                  simp only [updAll, Act.put, List.setIfInBounds_toArray, List.set_cons_zero, List.set_cons_succ] at hK' ⊢
                  go_wp2
                  exact hK'
                · refine ⟨b0, true, true, true, b4, b5, b6, b7, b8, b9, b10, b11, b12, b13, b14, b15, v37, (.slice (some ⟨bu, ou, none⟩) ls.length ca), (.int .i64 k), _, v41, v42, v43, v44, v45, v46, v36, v47, v48, v10, v11, by rfl, ?_, f0, fun _ => rfl, fun _ => rfl, fun _ => rfl, f4, f5, f6, f7, f8, f9, f10, f11, f12, f15, g13, hM, hz, x13⟩
                  rw [← hA0]
                  simp [updAll, Act.put]
              · obtain rfl : b4 = false := by simpa using hlst
                obtain rfl := Option.some.inj (show some _ = some oop from hopi)
                obtain rfl : b3 = true := by
                  rcases Bool.eq_false_or_eq_true b3 with hbb | hbb
                  · exact hbb
                  · exfalso; subst hbb; revert hdep; simp [Region.binds]
                have e3 := f3 rfl
                subst e3
                refine step_to (a' := (updAll A0 [(37, v37), (38, v38), (39, v39), (40, (.pointer (some ⟨bu, ou + k * 2, none⟩))), (41, v41), (42, v42), (43, v43), (44, v44), (45, v45), (46, v46), (36, v36), (47, v47), (48, v48), (10, v10), (11, v11)]).put (some 41) ((.agg #[.int .i64 x1, .int .i64 x2]))) (w' := W) ?_ ?_
                · intro K' hK'
                  subst hA0
                  have c0 := hM.at_ (show (bu, ou + k * 2, .int .i64 x1) ∈ _ from by simp); have c1 := hM.at_ (show (bu, ou + k * 2 + 1, .int .i64 x2) ∈ _ from by simp); have c2 := hM.at_ (show (bv, ov + k * 2, .int .i64 y1) ∈ _ from by simp); have c3 := hM.at_ (show (bv, ov + k * 2 + 1, .int .i64 y2) ∈ _ from by simp)
                  refine wpOp_plain rfl rfl ?_
                  simp only [updAll, Act.put, List.setIfInBounds_toArray, List.set_cons_zero, List.set_cons_succ] at hK' ⊢
                  go_wp2
                  exact hK'
                · refine ⟨b0, b1, b2, true, true, b5, b6, b7, b8, b9, b10, b11, b12, b13, b14, b15, v37, v38, v39, (.pointer (some ⟨bu, ou + k * 2, none⟩)), _, v42, v43, v44, v45, v46, v36, v47, v48, v10, v11, by rfl, ?_, f0, f1, f2, fun _ => rfl, fun _ => rfl, f5, f6, f7, f8, f9, f10, f11, f12, f15, g13, hM, hz, x13⟩
                  rw [← hA0]
                  simp [updAll, Act.put]
              · obtain rfl : b5 = false := by simpa using hlst
                obtain rfl := Option.some.inj (show some _ = some oop from hopi)
                refine step_to (a' := (updAll A0 [(37, v37), (38, v38), (39, v39), (40, v40), (41, v41), (42, v42), (43, v43), (44, v44), (45, v45), (46, v46), (36, v36), (47, v47), (48, v48), (10, v10), (11, v11)]).put (some 42) ((.slice (some ⟨bv, ov, none⟩) ls.length cb))) (w' := W) ?_ ?_
                · intro K' hK'
                  subst hA0
                  have c0 := hM.at_ (show (bu, ou + k * 2, .int .i64 x1) ∈ _ from by simp); have c1 := hM.at_ (show (bu, ou + k * 2 + 1, .int .i64 x2) ∈ _ from by simp); have c2 := hM.at_ (show (bv, ov + k * 2, .int .i64 y1) ∈ _ from by simp); have c3 := hM.at_ (show (bv, ov + k * 2 + 1, .int .i64 y2) ∈ _ from by simp)
                  refine wpOp_plain rfl rfl ?_
                  simp only [updAll, Act.put, List.setIfInBounds_toArray, List.set_cons_zero, List.set_cons_succ] at hK' ⊢
                  go_wp2
                  exact hK'
                · refine ⟨b0, b1, b2, b3, b4, true, b6, b7, b8, b9, b10, b11, b12, b13, b14, b15, v37, v38, v39, v40, v41, _, v43, v44, v45, v46, v36, v47, v48, v10, v11, by rfl, ?_, f0, f1, f2, f3, f4, fun _ => rfl, f6, f7, f8, f9, f10, f11, f12, f15, g13, hM, hz, x13⟩
                  rw [← hA0]
                  simp [updAll, Act.put]
              · obtain rfl : b6 = false := by simpa using hlst
                obtain rfl := Option.some.inj (show some _ = some oop from hopi)
                refine step_to (a' := (updAll A0 [(37, v37), (38, v38), (39, v39), (40, v40), (41, v41), (42, v42), (43, v43), (44, v44), (45, v45), (46, v46), (36, v36), (47, v47), (48, v48), (10, v10), (11, v11)]).put (some 43) ((.int .i64 k))) (w' := W) ?_ ?_
                · intro K' hK'
                  subst hA0
                  have c0 := hM.at_ (show (bu, ou + k * 2, .int .i64 x1) ∈ _ from by simp); have c1 := hM.at_ (show (bu, ou + k * 2 + 1, .int .i64 x2) ∈ _ from by simp); have c2 := hM.at_ (show (bv, ov + k * 2, .int .i64 y1) ∈ _ from by simp); have c3 := hM.at_ (show (bv, ov + k * 2 + 1, .int .i64 y2) ∈ _ from by simp)
                  refine wpOp_plain rfl rfl ?_
                  simp only [updAll, Act.put, List.setIfInBounds_toArray, List.set_cons_zero, List.set_cons_succ] at hK' ⊢
                  go_wp2
                  exact hK'
                · refine ⟨b0, b1, b2, b3, b4, b5, true, b7, b8, b9, b10, b11, b12, b13, b14, b15, v37, v38, v39, v40, v41, v42, _, v44, v45, v46, v36, v47, v48, v10, v11, by rfl, ?_, f0, f1, f2, f3, f4, f5, fun _ => rfl, f7, f8, f9, f10, f11, f12, f15, g13, hM, hz, x13⟩
                  rw [← hA0]
                  simp [updAll, Act.put]
              · obtain rfl : b7 = false := by simpa using hlst
                obtain rfl := Option.some.inj (show some _ = some oop from hopi)
                obtain rfl : b5 = true := by
                  rcases Bool.eq_false_or_eq_true b5 with hbb | hbb
                  · exact hbb
                  · exfalso; subst hbb; revert hdep; simp [Region.binds]
                obtain rfl : b6 = true := by
                  rcases Bool.eq_false_or_eq_true b6 with hbb | hbb
                  · exact hbb
                  · exfalso; subst hbb; revert hdep; simp [Region.binds]
                have e5 := f5 rfl
                subst e5
                have e6 := f6 rfl
                subst e6
                refine step_to (a' := (updAll A0 [(37, v37), (38, v38), (39, v39), (40, v40), (41, v41), (42, (.slice (some ⟨bv, ov, none⟩) ls.length cb)), (43, (.int .i64 k)), (44, v44), (45, v45), (46, v46), (36, v36), (47, v47), (48, v48), (10, v10), (11, v11)]).put (some 44) ((.pointer (some ⟨bv, ov + k * 2, none⟩)))) (w' := W) ?_ ?_
                · intro K' hK'
                  subst hA0
                  have c0 := hM.at_ (show (bu, ou + k * 2, .int .i64 x1) ∈ _ from by simp); have c1 := hM.at_ (show (bu, ou + k * 2 + 1, .int .i64 x2) ∈ _ from by simp); have c2 := hM.at_ (show (bv, ov + k * 2, .int .i64 y1) ∈ _ from by simp); have c3 := hM.at_ (show (bv, ov + k * 2 + 1, .int .i64 y2) ∈ _ from by simp)
                  refine wpOp_plain rfl rfl ?_
                  simp only [updAll, Act.put, List.setIfInBounds_toArray, List.set_cons_zero, List.set_cons_succ] at hK' ⊢
                  go_wp2
                  exact hK'
                · refine ⟨b0, b1, b2, b3, b4, true, true, true, b8, b9, b10, b11, b12, b13, b14, b15, v37, v38, v39, v40, v41, (.slice (some ⟨bv, ov, none⟩) ls.length cb), (.int .i64 k), _, v45, v46, v36, v47, v48, v10, v11, by rfl, ?_, f0, f1, f2, f3, f4, fun _ => rfl, fun _ => rfl, fun _ => rfl, f8, f9, f10, f11, f12, f15, g13, hM, hz, x13⟩
                  rw [← hA0]
                  simp [updAll, Act.put]
              · obtain rfl : b8 = false := by simpa using hlst
                obtain rfl := Option.some.inj (show some _ = some oop from hopi)
                obtain rfl : b7 = true := by
                  rcases Bool.eq_false_or_eq_true b7 with hbb | hbb
                  · exact hbb
                  · exfalso; subst hbb; revert hdep; simp [Region.binds]
                have e7 := f7 rfl
                subst e7
                refine step_to (a' := (updAll A0 [(37, v37), (38, v38), (39, v39), (40, v40), (41, v41), (42, v42), (43, v43), (44, (.pointer (some ⟨bv, ov + k * 2, none⟩))), (45, v45), (46, v46), (36, v36), (47, v47), (48, v48), (10, v10), (11, v11)]).put (some 45) ((.agg #[.int .i64 y1, .int .i64 y2]))) (w' := W) ?_ ?_
                · intro K' hK'
                  subst hA0
                  have c0 := hM.at_ (show (bu, ou + k * 2, .int .i64 x1) ∈ _ from by simp); have c1 := hM.at_ (show (bu, ou + k * 2 + 1, .int .i64 x2) ∈ _ from by simp); have c2 := hM.at_ (show (bv, ov + k * 2, .int .i64 y1) ∈ _ from by simp); have c3 := hM.at_ (show (bv, ov + k * 2 + 1, .int .i64 y2) ∈ _ from by simp)
                  refine wpOp_plain rfl rfl ?_
                  simp only [updAll, Act.put, List.setIfInBounds_toArray, List.set_cons_zero, List.set_cons_succ] at hK' ⊢
                  go_wp2
                  exact hK'
                · refine ⟨b0, b1, b2, b3, b4, b5, b6, true, true, b9, b10, b11, b12, b13, b14, b15, v37, v38, v39, v40, v41, v42, v43, (.pointer (some ⟨bv, ov + k * 2, none⟩)), _, v46, v36, v47, v48, v10, v11, by rfl, ?_, f0, f1, f2, f3, f4, f5, f6, fun _ => rfl, fun _ => rfl, f9, f10, f11, f12, f15, g13, hM, hz, x13⟩
                  rw [← hA0]
                  simp [updAll, Act.put]
              · obtain rfl : b9 = false := by simpa using hlst
                obtain rfl := Option.some.inj (show some _ = some oop from hopi)
                obtain rfl : b0 = true := by
                  rcases Bool.eq_false_or_eq_true b0 with hbb | hbb
                  · exact hbb
                  · exfalso; subst hbb; revert hdep; simp [Region.binds]
                obtain rfl : b4 = true := by
                  rcases Bool.eq_false_or_eq_true b4 with hbb | hbb
                  · exact hbb
                  · exfalso; subst hbb; revert hdep; simp [Region.binds]
                obtain rfl : b8 = true := by
                  rcases Bool.eq_false_or_eq_true b8 with hbb | hbb
                  · exact hbb
                  · exfalso; subst hbb; revert hdep; simp [Region.binds]
                have e0 := f0 rfl
                subst e0
                have e4 := f4 rfl
                subst e4
                have e8 := f8 rfl
                subst e8
                refine step_ex (fun a' w' => a' = (updAll A0 [(37, (.func (.func 67) #[] #[])), (38, v38), (39, v39), (40, v40), (41, (.agg #[.int .i64 x1, .int .i64 x2])), (42, v42), (43, v43), (44, v44), (45, (.agg #[.int .i64 y1, .int .i64 y2])), (46, v46), (36, v36), (47, v47), (48, v48), (10, v10), (11, v11)]).put (some 46) ((.tuple #[.agg #[.int .i64 z1, .int .i64 z2], .int .i64 e])) ∧ Below W.heap.size W w') ?_ ?_
                · intro K' hK'
                  subst hA0
                  have c0 := hM.at_ (show (bu, ou + k * 2, .int .i64 x1) ∈ _ from by simp); have c1 := hM.at_ (show (bu, ou + k * 2 + 1, .int .i64 x2) ∈ _ from by simp); have c2 := hM.at_ (show (bv, ov + k * 2, .int .i64 y1) ∈ _ from by simp); have c3 := hM.at_ (show (bv, ov + k * 2 + 1, .int .i64 y2) ∈ _ from by simp)
                  refine wpOp_plain rfl rfl ?_
                  simp only [updAll, Act.put, List.setIfInBounds_toArray, List.set_cons_zero, List.set_cons_succ] at hK' ⊢
                  go_wp2_with (go_at_call 67; refine (GK.out _).mono ?_; rintro e w1 ⟨rfl, hb1⟩)
                  all_goals (first | exact ⟨rfl, hb1⟩ | exact hK' _ _ ⟨rfl, hb1⟩)
                · rintro a' w' ⟨rfl, hb1⟩
                  refine ⟨true, b1, b2, b3, true, b5, b6, b7, true, true, b10, b11, b12, b13, b14, b15, (.func (.func 67) #[] #[]), v38, v39, v40, (.agg #[.int .i64 x1, .int .i64 x2]), v42, v43, v44, (.agg #[.int .i64 y1, .int .i64 y2]), _, v36, v47, v48, v10, v11, by rfl, ?_, fun _ => rfl, f1, f2, f3, fun _ => rfl, f5, f6, f7, fun _ => rfl, fun _ => rfl, f10, f11, f12, f15, g13, hM.step hb1, Nat.le_trans hz hb1.size, x13.step hb1⟩
                  rw [← hA0]
                  simp [updAll, Act.put]
              · obtain rfl : b10 = false := by simpa using hlst
                obtain rfl := Option.some.inj (show some _ = some oop from hopi)
                obtain rfl : b9 = true := by
                  rcases Bool.eq_false_or_eq_true b9 with hbb | hbb
                  · exact hbb
                  · exfalso; subst hbb; revert hdep; simp [Region.binds]
                have e9 := f9 rfl
                subst e9
                refine step_to (a' := (updAll A0 [(37, v37), (38, v38), (39, v39), (40, v40), (41, v41), (42, v42), (43, v43), (44, v44), (45, v45), (46, (.tuple #[.agg #[.int .i64 z1, .int .i64 z2], .int .i64 e])), (36, v36), (47, v47), (48, v48), (10, v10), (11, v11)]).put (some 36) ((.tuple #[.agg #[.int .i64 z1, .int .i64 z2], .int .i64 e]))) (w' := W) ?_ ?_
                · intro K' hK'
                  subst hA0
                  have c0 := hM.at_ (show (bu, ou + k * 2, .int .i64 x1) ∈ _ from by simp); have c1 := hM.at_ (show (bu, ou + k * 2 + 1, .int .i64 x2) ∈ _ from by simp); have c2 := hM.at_ (show (bv, ov + k * 2, .int .i64 y1) ∈ _ from by simp); have c3 := hM.at_ (show (bv, ov + k * 2 + 1, .int .i64 y2) ∈ _ from by simp)
                  refine wpOp_plain rfl rfl ?_
                  simp only [updAll, Act.put, List.setIfInBounds_toArray, List.set_cons_zero, List.set_cons_succ] at hK' ⊢
                  go_wp2
                  exact hK'
                · refine ⟨b0, b1, b2, b3, b4, b5, b6, b7, b8, true, true, b11, b12, b13, b14, b15, v37, v38, v39, v40, v41, v42, v43, v44, v45, (.tuple #[.agg #[.int .i64 z1, .int .i64 z2], .int .i64 e]), _, v47, v48, v10, v11, by rfl, ?_, f0, f1, f2, f3, f4, f5, f6, f7, f8, fun _ => rfl, fun _ => rfl, f11, f12, f15, g13, hM, hz, x13⟩
                  rw [← hA0]
                  simp [updAll, Act.put]
              · obtain rfl : b11 = false := by simpa using hlst
                obtain rfl := Option.some.inj (show some _ = some oop from hopi)
                obtain rfl : b10 = true := by
                  rcases Bool.eq_false_or_eq_true b10 with hbb | hbb
                  · exact hbb
                  · exfalso; subst hbb; revert hdep; simp [Region.binds]
                have e10 := f10 rfl
                subst e10
                refine step_to (a' := (updAll A0 [(37, v37), (38, v38), (39, v39), (40, v40), (41, v41), (42, v42), (43, v43), (44, v44), (45, v45), (46, v46), (36, (.tuple #[.agg #[.int .i64 z1, .int .i64 z2], .int .i64 e])), (47, v47), (48, v48), (10, v10), (11, v11)]).put (some 47) ((.agg #[.int .i64 z1, .int .i64 z2]))) (w' := W) ?_ ?_
                · intro K' hK'
                  subst hA0
                  have c0 := hM.at_ (show (bu, ou + k * 2, .int .i64 x1) ∈ _ from by simp); have c1 := hM.at_ (show (bu, ou + k * 2 + 1, .int .i64 x2) ∈ _ from by simp); have c2 := hM.at_ (show (bv, ov + k * 2, .int .i64 y1) ∈ _ from by simp); have c3 := hM.at_ (show (bv, ov + k * 2 + 1, .int .i64 y2) ∈ _ from by simp)
                  refine wpOp_plain rfl rfl ?_
                  simp only [updAll, Act.put, List.setIfInBounds_toArray, List.set_cons_zero, List.set_cons_succ] at hK' ⊢
                  go_wp2
                  exact hK'
                · refine ⟨b0, b1, b2, b3, b4, b5, b6, b7, b8, b9, true, true, b12, b13, b14, b15, v37, v38, v39, v40, v41, v42, v43, v44, v45, v46, (.tuple #[.agg #[.int .i64 z1, .int .i64 z2], .int .i64 e]), _, v48, v10, v11, by rfl, ?_, f0, f1, f2, f3, f4, f5, f6, f7, f8, f9, fun _ => rfl, fun _ => rfl, f12, f15, g13, hM, hz, x13⟩
                  rw [← hA0]
                  simp [updAll, Act.put]
              · obtain rfl : b12 = false := by simpa using hlst
                obtain rfl := Option.some.inj (show some _ = some oop from hopi)
                obtain rfl : b10 = true := by
                  rcases Bool.eq_false_or_eq_true b10 with hbb | hbb
                  · exact hbb
                  · exfalso; subst hbb; revert hdep; simp [Region.binds]
                have e10 := f10 rfl
                subst e10
                refine step_to (a' := (updAll A0 [(37, v37), (38, v38), (39, v39), (40, v40), (41, v41), (42, v42), (43, v43), (44, v44), (45, v45), (46, v46), (36, (.tuple #[.agg #[.int .i64 z1, .int .i64 z2], .int .i64 e])), (47, v47), (48, v48), (10, v10), (11, v11)]).put (some 48) ((.int .i64 e))) (w' := W) ?_ ?_
                · intro K' hK'
                  subst hA0
                  have c0 := hM.at_ (show (bu, ou + k * 2, .int .i64 x1) ∈ _ from by simp); have c1 := hM.at_ (show (bu, ou + k * 2 + 1, .int .i64 x2) ∈ _ from by simp); have c2 := hM.at_ (show (bv, ov + k * 2, .int .i64 y1) ∈ _ from by simp); have c3 := hM.at_ (show (bv, ov + k * 2 + 1, .int .i64 y2) ∈ _ from by simp)
                  refine wpOp_plain rfl rfl ?_
                  simp only [updAll, Act.put, List.setIfInBounds_toArray, List.set_cons_zero, List.set_cons_succ] at hK' ⊢
                  go_wp2
                  exact hK'
                · refine ⟨b0, b1, b2, b3, b4, b5, b6, b7, b8, b9, true, b11, true, b13, b14, b15, v37, v38, v39, v40, v41, v42, v43, v44, v45, v46, (.tuple #[.agg #[.int .i64 z1, .int .i64 z2], .int .i64 e]), v47, _, v10, v11, by rfl, ?_, f0, f1, f2, f3, f4, f5, f6, f7, f8, f9, fun _ => rfl, f11, fun _ => rfl, f15, g13, hM, hz, x13⟩
                  rw [← hA0]
                  simp [updAll, Act.put]
              · obtain rfl : b13 = false := by simpa using hlst
                obtain rfl := Option.some.inj (show some _ = some oop from hopi)
                have e_st := g13 rfl
                subst e_st
                refine step_to (a' := (updAll A0 [(37, v37), (38, v38), (39, v39), (40, v40), (41, v41), (42, v42), (43, v43), (44, v44), (45, v45), (46, v46), (36, v36), (47, v47), (48, v48), (10, v10), (11, v11)]).put (some 10) (.pointer (some ⟨W.heap.size, 0, none⟩))) (w' := W.alloc (.cells #[.int .i64 0, .int .i64 0] 40)) ?_ ?_
                · intro K' hK'
                  subst hA0
                  refine wpOp_plain rfl rfl ?_
                  simp only [updAll, Act.put, List.setIfInBounds_toArray, List.set_cons_zero, List.set_cons_succ] at hK' ⊢
                  go_wp2
                  exact hK'
                · refine ⟨b0, b1, b2, b3, b4, b5, b6, b7, b8, b9, b10, b11, b12, true, false, b15, v37, v38, v39, v40, v41, v42, v43, v44, v45, v46, v36, v47, v48, _, v11, by rfl, ?_, f0, f1, f2, f3, f4, f5, f6, f7, f8, f9, f10, f11, f12, f15, by simp, hM.alloc, (by first | omega | (simp; omega) | simp), BoxF.new hz⟩
                  rw [← hA0]
                  simp [updAll, Act.put]
              · obtain rfl : b14 = false := by simpa using hlst
                obtain rfl := Option.some.inj (show some _ = some oop from hopi)
                obtain rfl : b13 = true := by
                  rcases Bool.eq_false_or_eq_true b13 with hbb | hbb
                  · exact hbb
                  · exfalso; subst hbb; revert hdep; simp [Region.binds]
                obtain rfl : b11 = true := by
                  rcases Bool.eq_false_or_eq_true b11 with hbb | hbb
                  · exact hbb
                  · exfalso; subst hbb; revert hdep; simp [Region.binds]
                have e11 := f11 rfl
                subst e11
                obtain ⟨r, hr1, hr2, hr3⟩ := x13 rfl
                subst hr1
                simp only [Bool.false_eq_true, if_false] at hr3
                refine step_to (a' := updAll A0 [(37, v37), (38, v38), (39, v39), (40, v40), (41, v41), (42, v42), (43, v43), (44, v44), (45, v45), (46, v46), (36, v36), (47, (.agg #[.int .i64 z1, .int .i64 z2])), (48, v48), (10, (.pointer (some ⟨r, 0, none⟩))), (11, v11)]) (w' := ((W.setCell ⟨r, 0, none⟩ (.int .i64 z1)).setCell ⟨r, 1, none⟩ (.int .i64 z2))) ?_ ?_
                · intro K' hK'
                  subst hA0
                  have q0 := blk_cell (o := 0) hr3 rfl
                  have p0 := blk_free (o := 0) hr3
                  have q1 := blk_cell (o := 1) hr3 rfl
                  have p1 := blk_free (o := 1) hr3
                  refine wpOp_plain rfl rfl ?_
                  simp only [updAll, Act.put, List.setIfInBounds_toArray, List.set_cons_zero, List.set_cons_succ] at hK' ⊢
                  go_wp2
                  exact hK'
                · exact ⟨b0, b1, b2, b3, b4, b5, b6, b7, b8, b9, b10, true, b12, true, true, b15, v37, v38, v39, v40, v41, v42, v43, v44, v45, v46, v36, (.agg #[.int .i64 z1, .int .i64 z2]), v48, (.pointer (some ⟨r, 0, none⟩)), v11, by rfl, rfl, f0, f1, f2, f3, f4, f5, f6, f7, f8, f9, f10, fun _ => rfl, f12, f15, by simp, ((hM.set (by omega)).set (by omega)), by simpa using hz, fun _ => ⟨r, rfl, hr2, (blk_set (blk_set hr3))⟩⟩
              · obtain rfl : b15 = false := by simpa using hlst
                obtain rfl := Option.some.inj (show some _ = some oop from hopi)
                obtain rfl : b12 = true := by
                  rcases Bool.eq_false_or_eq_true b12 with hbb | hbb
                  · exact hbb
                  · exfalso; subst hbb; revert hdep; simp [Region.binds]
                have e12 := f12 rfl
                subst e12
                refine step_to (a' := (updAll A0 [(37, v37), (38, v38), (39, v39), (40, v40), (41, v41), (42, v42), (43, v43), (44, v44), (45, v45), (46, v46), (36, v36), (47, v47), (48, (.int .i64 e)), (10, v10), (11, v11)]).put (some 11) ((.int .i64 e))) (w' := W) ?_ ?_
                · intro K' hK'
                  subst hA0
                  have c0 := hM.at_ (show (bu, ou + k * 2, .int .i64 x1) ∈ _ from by simp); have c1 := hM.at_ (show (bu, ou + k * 2 + 1, .int .i64 x2) ∈ _ from by simp); have c2 := hM.at_ (show (bv, ov + k * 2, .int .i64 y1) ∈ _ from by simp); have c3 := hM.at_ (show (bv, ov + k * 2 + 1, .int .i64 y2) ∈ _ from by simp)
                  refine wpOp_plain rfl rfl ?_
                  simp only [updAll, Act.put, List.setIfInBounds_toArray, List.set_cons_zero, List.set_cons_succ] at hK' ⊢
                  go_wp2
                  exact hK'
                · refine ⟨b0, b1, b2, b3, b4, b5, b6, b7, b8, b9, b10, b11, true, b13, b14, true, v37, v38, v39, v40, v41, v42, v43, v44, v45, v46, v36, v47, (.int .i64 e), v10, _, by rfl, ?_, f0, f1, f2, f3, f4, f5, f6, f7, f8, f9, f10, f11, fun _ => rfl, fun _ => rfl, g13, hM, hz, x13⟩
                  rw [← hA0]
                  simp [updAll, Act.put]
            case done =>
              rintro l a W ⟨b0, b1, b2, b3, b4, b5, b6, b7, b8, b9, b10, b11, b12, b13, b14, b15, v37, v38, v39, v40, v41, v42, v43, v44, v45, v46, v36, v47, v48, v10, v11, rfl, rfl, f0, f1, f2, f3, f4, f5, f6, f7, f8, f9, f10, f11, f12, f15, g13, hM, hz, x13⟩ hall
              obtain rfl : b0 = true := by simpa using hall 0 (by decide)
              obtain rfl : b1 = true := by simpa using hall 1 (by decide)
              obtain rfl : b2 = true := by simpa using hall 2 (by decide)
              obtain rfl : b3 = true := by simpa using hall 3 (by decide)
              obtain rfl : b4 = true := by simpa using hall 4 (by decide)
              obtain rfl : b5 = true := by simpa using hall 5 (by decide)
              obtain rfl : b6 = true := by simpa using hall 6 (by decide)
              obtain rfl : b7 = true := by simpa using hall 7 (by decide)
              obtain rfl : b8 = true := by simpa using hall 8 (by decide)
              obtain rfl : b9 = true := by simpa using hall 9 (by decide)
              obtain rfl : b10 = true := by simpa using hall 10 (by decide)
              obtain rfl : b11 = true := by simpa using hall 11 (by decide)
              obtain rfl : b12 = true := by simpa using hall 12 (by decide)
              obtain rfl : b13 = true := by simpa using hall 13 (by decide)
              obtain rfl : b14 = true := by simpa using hall 14 (by decide)
              obtain rfl : b15 = true := by simpa using hall 15 (by decide)
              have e0 := f0 rfl
              subst e0
              have e1 := f1 rfl
              subst e1
              have e2 := f2 rfl
              subst e2
              have e3 := f3 rfl
              subst e3
              have e4 := f4 rfl
              subst e4
              have e5 := f5 rfl
              subst e5
              have e6 := f6 rfl
              subst e6
              have e7 := f7 rfl
              subst e7
              have e8 := f8 rfl
              subst e8
              have e9 := f9 rfl
              subst e9
              have e10 := f10 rfl
              subst e10
              have e11 := f11 rfl
              subst e11
              have e12 := f12 rfl
              subst e12
              have e15 := f15 rfl
              subst e15
              obtain ⟨r13, e13, k13, m13⟩ := x13 rfl
              subst e13
              simp only [if_true] at m13
              subst hA0
              simp only [updAll, Act.put, List.setIfInBounds_toArray, List.set_cons_zero, List.set_cons_succ]
              have d1 := blk_cell (o := 0) m13 rfl
              have d2 := blk_cell (o := 1) m13 rfl
              have hN := hM.bel
              have HO := Lib.hid (HO.out.step hN)
              have hb0 := blk_lt m13
              clear m13 hM k13 HC
              by_cases he : e = 0
              · subst he
                have HX2 := HX.out
                clear HX
                go_wp2_with (at_builtin; refine wpList_append_own _ rfl _ _ 47 rfl (w.heap.size) 40 i0 (.agg #[.int .i64 0, .int .i64 0]) 2 16 Try.underlying47 hi hz0 hz1 hz2 rfl (by decide) _ _ _ rfl (World.ownsRow.alloc HO.out _) ⟨W.heap.size, 0, none⟩ 1 1 [.int .i64 z1, .int .i64 z2] rfl rfl (two_cells _ _ _ _) (two_one _ _) (by have := HL.out; unfold maxLen; omega) (by have := HL.out; omega) (by have := kB.size; have := hN.size; simp; omega) ?_; intro v' w1 hown hgrow _)
                · skip
                  have hO2 : SpOwn w1 w.heap.size v' (outs meetS ls m (k + 1)) := by rw [HX2]; exact SpOwn.more hown
                  have kW : Below w.heap.size w w1 := (bAlloc (bStep kB hN) _).grown hgrow (by have := kB.size; have := hN.size; simp; omega) (own_ge HO.out)
                  clear hown hgrow HO HX2 HL d1 d2 hb0 hN
                  go_wp2
                  go_roundw
                  case rel => exact ⟨k + 1, by omega, by go_num, kW, hO2, HI2.out (by first | rfl | trivial)⟩
                  case measure => (simp [intOf]; omega)
              · obtain rfl := HN2.out he
                go_wp2_with fail
                go_ret2
                exact ⟨_, rfl, SpRow.nil, bStep kB hN⟩
          · obtain rfl : k = ls.length := by omega
            have hR : R = (outs meetS ls m ls.length, 0) := by rw [HP.out, firstErr_none HI.out, if_pos rfl]
            subst hR
            obtain ⟨ao, co, rfl, hO⟩ := HO.out.at_
            clear HP HI HA HB HO H3
            go_wp2_with fail
            go_ret2
            exact ⟨_, rfl, hO.row, kB⟩
      · have hp : pairsS meetS ls m = ([], 20) := by
          unfold pairsS
          rw [if_neg h8, if_neg (fun h => h ⟨h1, h2⟩), if_pos h3]
        rw [hp]
        have h3' : (ls.length : Int) ≠ (m.length : Int) := by omega
        clear hp h1 h2 h8 hl hm hA hB
        go_enter Try.func66, Try.ntmps66
        go_wp2_with (go_at_call 54; first | (with_reducible refine (V.out _ HV.out).mono ?_; rintro e w1 ⟨rfl, hb1⟩; have hx := HU.out.step hb1; clear HU; have HU := Lib.hid hx; clear hx) | (with_reducible refine (U.out _ HU.out).mono ?_; rintro e w2 ⟨rfl, hb2⟩))
        go_ret2
        exact ⟨_, rfl, SpRow.nil, (by repeat' (first | exact Below.refl _ _ | assumption | apply bDrewN | apply bDrew | apply bAlloc | (refine bSet ?_ ?_ _) | (refine bStep ?_ (by assumption)) | omega | (simp <;> omega)))⟩
    · have hp : pairsS meetS ls m = ([], 2) := by
        unfold pairsS
        rw [if_neg h8, if_pos (fun h => h2 h.2)]
      rw [hp]
      rw [h1] at V
      rw [Bool.eq_false_iff.2 h2] at U
      clear hp h1 h2 h8 hl hm hA hB
      go_enter Try.func66, Try.ntmps66
      go_wp2_with (go_at_call 54; first | (with_reducible refine (V.out _ HV.out).mono ?_; rintro e w1 ⟨rfl, hb1⟩; have hx := HU.out.step hb1; clear HU; have HU := Lib.hid hx; clear hx) | (with_reducible refine (U.out _ HU.out).mono ?_; rintro e w2 ⟨rfl, hb2⟩))
      go_ret2
      exact ⟨_, rfl, SpRow.nil, (by repeat' (first | exact Below.refl _ _ | assumption | apply bDrewN | apply bDrew | apply bAlloc | (refine bSet ?_ ?_ _) | (refine bStep ?_ (by assumption)) | omega | (simp <;> omega)))⟩
  · have hp : pairsS meetS ls m = ([], 2) := by
      unfold pairsS
      rw [if_neg h8, if_pos (fun h => h1 h.1)]
    rw [hp]
    rw [Bool.eq_false_iff.2 h1] at V
    clear hp h1 h8 hl hm hA hB
    go_enter Try.func66, Try.ntmps66
    go_wp2_with (go_at_call 54; (with_reducible refine (V.out _ HV.out).mono ?_); rintro e w1 ⟨rfl, hb1⟩)
    go_ret2
    exact ⟨_, rfl, SpRow.nil, (by repeat' (first | exact Below.refl _ _ | assumption | apply bDrewN | apply bDrew | apply bAlloc | (refine bSet ?_ ?_ _) | (refine bStep ?_ (by assumption)) | omega | (simp <;> omega)))⟩

set_option maxHeartbeats 4000000 in
set_option maxRecDepth 20000 in
theorem pairs_hull (v u : Value) (ls m : List (Int × Int)) (w : World) (hl : ls.length ≤ 1000000) (hm : m.length ≤ 1000000) (hv : SpRow v ls w) (hu : SpRow u m w) :
    Calls Try.prog 66 #[v, u, .func (.func 70) #[] #[]] w fun e w' => ∃ x, e = .returned (.tuple #[x, .int .i64 (pairsS hullS ls m).2]) ∧ SpRow x (pairsS hullS ls m).1 w' ∧ Below w.heap.size w w' := by
  have V := Lib.hid (fun w h => valid_row v ls w (by omega) h)
  have U := Lib.hid (fun w h => valid_row u m w (by omega) h)
  have G := Lib.hid Hull_any
  have HV := Lib.hid hv
  have HU := Lib.hid hu
  obtain ⟨a, ca, rfl, hA⟩ := hv
  obtain ⟨b, cb, rfl, hB⟩ := hu
  by_cases h8 : 8 < max ls.length m.length
  · have hr : pairsS hullS ls m = ([], 6) := if_pos h8
    rw [hr]
    have h8' : 8 < max (ls.length : Int) (m.length : Int) := by omega
    have e1 : (if ls.length < m.length then (m.length : Int) else (ls.length : Int)) = max (ls.length : Int) (m.length : Int) := by split <;> omega
    generalize max (ls.length : Int) (m.length : Int) = M at *
    clear hr h8 hl hm hA hB
    go_enter Try.func66, Try.ntmps66
    go_wp2_with fail
    go_ret2
    exact ⟨_, rfl, SpRow.nil, (by repeat' (first | exact Below.refl _ _ | assumption | apply bDrewN | apply bDrew | apply bAlloc | (refine bSet ?_ ?_ _) | (refine bStep ?_ (by assumption)) | omega | (simp <;> omega)))⟩
  have h8' : max (ls.length : Int) (m.length : Int) ≤ 8 := by omega
  have e1 : (if ls.length < m.length then (m.length : Int) else (ls.length : Int)) = max (ls.length : Int) (m.length : Int) := by split <;> omega
  have hL8 : ls.length ≤ 8 := by omega
  generalize hMM : max (ls.length : Int) (m.length : Int) = M at *
  clear hMM
  by_cases h1 : ls.all okS = true
  · by_cases h2 : m.all okS = true
    · rw [h1] at V
      rw [h2] at U
      by_cases h3 : ls.length = m.length
      · have hp : pairsS hullS ls m = if firstErr hullS ls m = 0 then (outs hullS ls m ls.length, 0) else ([], firstErr hullS ls m) := by
          unfold pairsS
          rw [if_neg h8, if_neg (fun h => h ⟨h1, h2⟩), if_neg (fun h => h h3)]
        have HP := Lib.hid hp
        clear hp
        generalize pairsS hullS ls m = R at *
        have H3 := Lib.hid h3
        rw [← h3] at U HU e1 ⊢
        have HA := Lib.hid hA
        have HB := Lib.hid hB
        obtain ⟨i0, hi, hz0, hz1, hz2⟩ := info_parts infoSp
        clear h1 h2 h8 hl hm h3 hA hB
        go_enter Try.func66, Try.ntmps66
        go_upto_region 9 with (go_at_call 54; first | (with_reducible refine (V.out _ HV.out).mono ?_; rintro e w1 ⟨rfl, hb1⟩; have hx := HU.out.step hb1; clear HU; have HU := Lib.hid hx; clear hx) | (with_reducible refine (U.out _ HU.out).mono ?_; rintro e w2 ⟨rfl, hb2⟩) | fail)
        have kB : Below w.heap.size w w2 := bStep hb1 hb2
        clear V U HV HU hb1 hb2
        go_loopw [8, 33] (fun o i wr => ∃ k : Nat, k ≤ ls.length ∧ i = .int .i64 k ∧ Below w.heap.size w wr ∧ Hid (SpOwn wr w.heap.size o (outs hullS ls m k)) ∧ Hid (∀ j, j < k → (gAt hullS ls m j).2 = 0)) (fun _ i _ => ls.length - (intOf i).toNat)
        case atStart => exact ⟨0, by omega, rfl, kB, SpOwn.nil, fun j hj => by omega⟩
        case round =>
          clear kB
          obtain ⟨k, hk, rfl, kB, HO, HI⟩ := hrel
          by_cases hlt : k < ls.length
          · have hlt2 : k < m.length := by rw [← H3.out]; exact hlt
            obtain ⟨bu, ou, rfl, hc⟩ := (HA.out.step kB) (fun h => by rw [h] at hlt; simp at hlt)
            obtain ⟨bv, ov, rfl, hd⟩ := (HB.out.step kB) (fun h => by rw [h] at hlt2; simp at hlt2)
            obtain ⟨q1, q2⟩ := hc.at_ hlt
            obtain ⟨q3, q4⟩ := hd.at_ hlt2
            have hgk : ls.getD k (0, 0) = ls[k] := by simp [List.getD, List.getElem?_eq_getElem hlt]
            have hgm : m.getD k (0, 0) = m[k] := by simp [List.getD, List.getElem?_eq_getElem hlt2]
            have GK := Lib.hid (fun w => G.out (ls[k]) (m[k]) w)
            have hat : gAt hullS ls m k = hullS (ls[k]) (m[k]) := by unfold gAt; rw [hgk, hgm]
            have HI2 : Hid ((hullS (ls[k]) (m[k])).2 = 0 → ∀ j, j < k + 1 → (gAt hullS ls m j).2 = 0) := by
              intro h j hj
              rcases Nat.lt_or_ge j k with h' | h'
              · exact HI.out j h'
              · obtain rfl : j = k := by omega
                rw [hat]; exact h
            have HN2 : Hid ((hullS (ls[k]) (m[k])).2 ≠ 0 → R = ([], (hullS (ls[k]) (m[k])).2)) := by
              intro h
              rw [← hat] at h ⊢
              rw [HP.out, firstErr_at hlt HI.out h, if_neg h]
            have HX := Lib.hid (outs_succ hullS ls m k)
            rw [hat] at HX
            have HL := Lib.hid (outs_len hullS ls m k)
            have HC := Lib.hid (Cs.cons (Cs.cons (Cs.cons (Cs.cons (Cs.nil (Nat.le_refl _) (Below.refl wr.heap.size wr)) q4 hd.1) q3 hd.1) q2 hc.1) q1 hc.1)
            generalize hullS (ls[k]) (m[k]) = z at *
            generalize outs hullS ls m k = O at *
            clear hc hd hgk hgm HP HI G hat H3
            generalize ls[k] = x at *
            generalize m[k] = y at *
            obtain ⟨x1, x2⟩ := x
            obtain ⟨y1, y2⟩ := y
            obtain ⟨⟨z1, z2⟩, e⟩ := z
            dsimp only at *
            go_upto_region 11 with fail
            generalize hA0 : (Act.mk _ _) = A0
            refine region_inv (by kernel_rfl) (by kernel_rfl) (fun l a W => ∃ (b0 b1 b2 b3 b4 b5 b6 b7 b8 b9 b10 b11 b12 b13 b14 b15 : Bool) (v37 v38 v39 v40 v41 v42 v43 v44 v45 v46 v36 v47 v48 v10 v11 : Value), l = #[b0, b1, b2, b3, b4, b5, b6, b7, b8, b9, b10, b11, b12, b13, b14, b15] ∧ a = updAll A0 [(37, v37), (38, v38), (39, v39), (40, v40), (41, v41), (42, v42), (43, v43), (44, v44), (45, v45), (46, v46), (36, v36), (47, v47), (48, v48), (10, v10), (11, v11)] ∧ (b0 = true → v37 = (.func (.func 70) #[] #[])) ∧ (b1 = true → v38 = (.slice (some ⟨bu, ou, none⟩) ls.length ca)) ∧ (b2 = true → v39 = (.int .i64 k)) ∧ (b3 = true → v40 = (.pointer (some ⟨bu, ou + k * 2, none⟩))) ∧ (b4 = true → v41 = (.agg #[.int .i64 x1, .int .i64 x2])) ∧ (b5 = true → v42 = (.slice (some ⟨bv, ov, none⟩) ls.length cb)) ∧ (b6 = true → v43 = (.int .i64 k)) ∧ (b7 = true → v44 = (.pointer (some ⟨bv, ov + k * 2, none⟩))) ∧ (b8 = true → v45 = (.agg #[.int .i64 y1, .int .i64 y2])) ∧ (b9 = true → v46 = (.tuple #[.agg #[.int .i64 z1, .int .i64 z2], .int .i64 e])) ∧ (b10 = true → v36 = (.tuple #[.agg #[.int .i64 z1, .int .i64 z2], .int .i64 e])) ∧ (b11 = true → v47 = (.agg #[.int .i64 z1, .int .i64 z2])) ∧ (b12 = true → v48 = (.int .i64 e)) ∧ (b15 = true → v11 = (.int .i64 e)) ∧ (b13 = false → b14 = false) ∧ Cs wr wr.heap.size [(bu, ou + k * 2, .int .i64 x1), (bu, ou + k * 2 + 1, .int .i64 x2), (bv, ov + k * 2, .int .i64 y1), (bv, ov + k * 2 + 1, .int .i64 y2)] W ∧ wr.heap.size ≤ W.heap.size ∧ BoxF b13 b14 v10 (wr.heap.size) #[.int .i64 0, .int .i64 0] #[.int .i64 z1, .int .i64 z2] 40 W) ?h0 ?hsz ?step ?done
            case h0 =>
              refine ⟨false, false, false, false, false, false, false, false, false, false, false, false, false, false, false, false, A0.tmps.getD 37 undef, A0.tmps.getD 38 undef, A0.tmps.getD 39 undef, A0.tmps.getD 40 undef, A0.tmps.getD 41 undef, A0.tmps.getD 42 undef, A0.tmps.getD 43 undef, A0.tmps.getD 44 undef, A0.tmps.getD 45 undef, A0.tmps.getD 46 undef, A0.tmps.getD 36 undef, A0.tmps.getD 47 undef, A0.tmps.getD 48 undef, A0.tmps.getD 10 undef, A0.tmps.getD 11 undef, by rfl, ?_, by simp, by simp, by simp, by simp, by simp, by simp, by simp, by simp, by simp, by simp, by simp, by simp, by simp, by simp, by simp, HC.out.drew, (by first | omega | (simp; omega) | simp), BoxF.no⟩
              rw [← hA0]
              simp [updAll, Act.put]
            case hsz =>
              rintro l a W ⟨b0, b1, b2, b3, b4, b5, b6, b7, b8, b9, b10, b11, b12, b13, b14, b15, v37, v38, v39, v40, v41, v42, v43, v44, v45, v46, v36, v47, v48, v10, v11, rfl, -⟩
              rfl
            case step =>
              intro iop oop hopi lst act W hInv hlst hdep
              obtain ⟨b0, b1, b2, b3, b4, b5, b6, b7, b8, b9, b10, b11, b12, b13, b14, b15, v37, v38, v39, v40, v41, v42, v43, v44, v45, v46, v36, v47, v48, v10, v11, rfl, rfl, f0, f1, f2, f3, f4, f5, f6, f7, f8, f9, f10, f11, f12, f15, g13, hM, hz, x13⟩ := hInv
              have hi8 : iop < 16 := (Array.getElem?_eq_some_iff.1 hopi).1
              have hi9 : iop = 0 ∨ iop = 1 ∨ iop = 2 ∨ iop = 3 ∨ iop = 4 ∨ iop = 5 ∨ iop = 6 ∨ iop = 7 ∨ iop = 8 ∨ iop = 9 ∨ iop = 10 ∨ iop = 11 ∨ iop = 12 ∨ iop = 13 ∨ iop = 14 ∨ iop = 15 := by omega
              rcases hi9 with rfl | rfl | rfl | rfl | rfl | rfl | rfl | rfl | rfl | rfl | rfl | rfl | rfl | rfl | rfl | rfl
              · obtain rfl : b0 = false := by simpa using hlst
                obtain rfl := Option.some.inj (show some _ = some oop from hopi)
                refine step_to (a' := (updAll A0 [(37, v37), (38, v38), (39, v39), (40, v40), (41, v41), (42, v42), (43, v43), (44, v44), (45, v45), (46, v46), (36, v36), (47, v47), (48, v48), (10, v10), (11, v11)]).put (some 37) ((.func (.func 70) #[] #[]))) (w' := W) ?_ ?_
                · intro K' hK'
                  subst hA0
                  have c0 := hM.at_ (show (bu, ou + k * 2, .int .i64 x1) ∈ _ from by simp); have c1 := hM.at_ (show (bu, ou + k * 2 + 1, .int .i64 x2) ∈ _ from by simp); have c2 := hM.at_ (show (bv, ov + k * 2, .int .i64 y1) ∈ _ from by simp); have c3 := hM.at_ (show (bv, ov + k * 2 + 1, .int .i64 y2) ∈ _ from by simp)
                  refine wpOp_plain rfl rfl ?_
                  simp only [updAll, Act.put, List.setIfInBounds_toArray, List.set_cons_zero, List.set_cons_succ] at hK' ⊢
                  go_wp2
                  exact hK'
                · refine ⟨true, b1, b2, b3, b4, b5, b6, b7, b8, b9, b10, b11, b12, b13, b14, b15, _, v38, v39, v40, v41, v42, v43, v44, v45, v46, v36, v47, v48, v10, v11, by rfl, ?_, fun _ => rfl, f1, f2, f3, f4, f5, f6, f7, f8, f9, f10, f11, f12, f15, g13, hM, hz, x13⟩
                  rw [← hA0]
                  simp [updAll, Act.put]
              · obtain rfl : b1 = false := by simpa using hlst
                obtain rfl := Option.some.inj (show some _ = some oop from hopi)
                refine step_to (a' := (updAll A0 [(37, v37), (38, v38), (39, v39), (40, v40), (41, v41), (42, v42), (43, v43), (44, v44), (45, v45), (46, v46), (36, v36), (47, v47), (48, v48), (10, v10), (11, v11)]).put (some 38) ((.slice (some ⟨bu, ou, none⟩) ls.length ca))) (w' := W) ?_ ?_
                · intro K' hK'
                  subst hA0
                  have c0 := hM.at_ (show (bu, ou + k * 2, .int .i64 x1) ∈ _ from by simp); have c1 := hM.at_ (show (bu, ou + k * 2 + 1, .int .i64 x2) ∈ _ from by simp); have c2 := hM.at_ (show (bv, ov + k * 2, .int .i64 y1) ∈ _ from by simp); have c3 := hM.at_ (show (bv, ov + k * 2 + 1, .int .i64 y2) ∈ _ from by simp)
                  refine wpOp_plain rfl rfl ?_
                  simp only [updAll, Act.put, List.setIfInBounds_toArray, List.set_cons_zero, List.set_cons_succ] at hK' ⊢
                  go_wp2
                  exact hK'
                · refine ⟨b0, true, b2, b3, b4, b5, b6, b7, b8, b9, b10, b11, b12, b13, b14, b15, v37, _, v39, v40, v41, v42, v43, v44, v45, v46, v36, v47, v48, v10, v11, by rfl, ?_, f0, fun _ => rfl, f2, f3, f4, f5, f6, f7, f8, f9, f10, f11, f12, f15, g13, hM, hz, x13⟩
                  rw [← hA0]
                  simp [updAll, Act.put]
              · obtain rfl : b2 = false := by simpa using hlst
                obtain rfl := Option.some.inj (show some _ = some oop from hopi)
                refine step_to (a' := (updAll A0 [(37, v37), (38, v38), (39, v39), (40, v40), (41, v41), (42, v42), (43, v43), (44, v44), (45, v45), (46, v46), (36, v36), (47, v47), (48, v48), (10, v10), (11, v11)]).put (some 39) ((.int .i64 k))) (w' := W) ?_ ?_
                · intro K' hK'
                  subst hA0
                  have c0 := hM.at_ (show (bu, ou + k * 2, .int .i64 x1) ∈ _ from by simp); have c1 := hM.at_ (show (bu, ou + k * 2 + 1, .int .i64 x2) ∈ _ from by simp); have c2 := hM.at_ (show (bv, ov + k * 2, .int .i64 y1) ∈ _ from by simp); have c3 := hM.at_ (show (bv, ov + k * 2 + 1, .int .i64 y2) ∈ _ from by simp)
                  refine wpOp_plain rfl rfl ?_
                  simp only [updAll, Act.put, List.setIfInBounds_toArray, List.set_cons_zero, List.set_cons_succ] at hK' ⊢
                  go_wp2
                  exact hK'
                · refine ⟨b0, b1, true, b3, b4, b5, b6, b7, b8, b9, b10, b11, b12, b13, b14, b15, v37, v38, _, v40, v41, v42, v43, v44, v45, v46, v36, v47, v48, v10, v11, by rfl, ?_, f0, f1, fun _ => rfl, f3, f4, f5, f6, f7, f8, f9, f10, f11, f12, f15, g13, hM, hz, x13⟩
                  rw [← hA0]
                  simp [updAll, Act.put]
              · obtain rfl : b3 = false := by simpa using hlst
                obtain rfl := Option.some.inj (show some _ = some oop from hopi)
                obtain rfl : b1 = true := by
                  rcases Bool.eq_false_or_eq_true b1 with hbb | hbb
                  · exact hbb
                  · exfalso; subst hbb; revert hdep; simp [Region.binds]
                obtain rfl : b2 = true := by
                  rcases Bool.eq_false_or_eq_true b2 with hbb | hbb
                  · exact hbb
                  · exfalso; subst hbb; revert hdep; simp [Region.binds]
                have e1 := f1 rfl
                subst e1
                have e2 := f2 rfl
                subst e2
                refine step_to (a' := (updAll A0 [(37, v37), (38, (.slice (some ⟨bu, ou, none⟩) ls.length ca)), (39, (.int .i64 k)), (40, v40), (41, v41), (42, v42), (43, v43), (44, v44), (45, v45), (46, v46), (36, v36), (47, v47), (48, v48), (10, v10), (11, v11)]).put (some 40) ((.pointer (some ⟨bu, ou + k * 2, none⟩)))) (w' := W) ?_ ?_
                · intro K' hK'
                  subst hA0
                  have c0 := hM.at_ (show (bu, ou + k * 2, .int .i64 x1) ∈ _ from by simp); have c1 := hM.at_ (show (bu, ou + k * 2 + 1, .int .i64 x2) ∈ _ from by simp); have c2 := hM.at_ (show (bv, ov + k * 2, .int .i64 y1) ∈ _ from by simp); have c3 := hM.at_ (show (bv, ov + k * 2 + 1, .int .i64 y2) ∈ _ from by simp)
                  refine wpOp_plain rfl rfl ?_
                  simp only [updAll, Act.put, List.setIfInBounds_toArray, List.set_cons_zero, List.set_cons_succ] at hK' ⊢
                  go_wp2
                  exact hK'
                · refine ⟨b0, true, true, true, b4, b5, b6, b7, b8, b9, b10, b11, b12, b13, b14, b15, v37, (.slice (some ⟨bu, ou, none⟩) ls.length ca), (.int .i64 k), _, v41, v42, v43, v44, v45, v46, v36, v47, v48, v10, v11, by rfl, ?_, f0, fun _ => rfl, fun _ => rfl, fun _ => rfl, f4, f5, f6, f7, f8, f9, f10, f11, f12, f15, g13, hM, hz, x13⟩
                  rw [← hA0]
                  simp [updAll, Act.put]
              · obtain rfl : b4 = false := by simpa using hlst
                obtain rfl := Option.some.inj (show some _ = some oop from hopi)
                obtain rfl : b3 = true := by
                  rcases Bool.eq_false_or_eq_true b3 with hbb | hbb
                  · exact hbb
                  · exfalso; subst hbb; revert hdep; simp [Region.binds]
                have e3 := f3 rfl
                subst e3
                refine step_to (a' := (updAll A0 [(37, v37), (38, v38), (39, v39), (40, (.pointer (some ⟨bu, ou + k * 2, none⟩))), (41, v41), (42, v42), (43, v43), (44, v44), (45, v45), (46, v46), (36, v36), (47, v47), (48, v48), (10, v10), (11, v11)]).put (some 41) ((.agg #[.int .i64 x1, .int .i64 x2]))) (w' := W) ?_ ?_
                · intro K' hK'
                  subst hA0
                  have c0 := hM.at_ (show (bu, ou + k * 2, .int .i64 x1) ∈ _ from by simp); have c1 := hM.at_ (show (bu, ou + k * 2 + 1, .int .i64 x2) ∈ _ from by simp); have c2 := hM.at_ (show (bv, ov + k * 2, .int .i64 y1) ∈ _ from by simp); have c3 := hM.at_ (show (bv, ov + k * 2 + 1, .int .i64 y2) ∈ _ from by simp)
                  refine wpOp_plain rfl rfl ?_
                  simp only [updAll, Act.put, List.setIfInBounds_toArray, List.set_cons_zero, List.set_cons_succ] at hK' ⊢
                  go_wp2
                  exact hK'
                · refine ⟨b0, b1, b2, true, true, b5, b6, b7, b8, b9, b10, b11, b12, b13, b14, b15, v37, v38, v39, (.pointer (some ⟨bu, ou + k * 2, none⟩)), _, v42, v43, v44, v45, v46, v36, v47, v48, v10, v11, by rfl, ?_, f0, f1, f2, fun _ => rfl, fun _ => rfl, f5, f6, f7, f8, f9, f10, f11, f12, f15, g13, hM, hz, x13⟩
                  rw [← hA0]
                  simp [updAll, Act.put]
              · obtain rfl : b5 = false := by simpa using hlst
                obtain rfl := Option.some.inj (show some _ = some oop from hopi)
                refine step_to (a' := (updAll A0 [(37, v37), (38, v38), (39, v39), (40, v40), (41, v41), (42, v42), (43, v43), (44, v44), (45, v45), (46, v46), (36, v36), (47, v47), (48, v48), (10, v10), (11, v11)]).put (some 42) ((.slice (some ⟨bv, ov, none⟩) ls.length cb))) (w' := W) ?_ ?_
                · intro K' hK'
                  subst hA0
                  have c0 := hM.at_ (show (bu, ou + k * 2, .int .i64 x1) ∈ _ from by simp); have c1 := hM.at_ (show (bu, ou + k * 2 + 1, .int .i64 x2) ∈ _ from by simp); have c2 := hM.at_ (show (bv, ov + k * 2, .int .i64 y1) ∈ _ from by simp); have c3 := hM.at_ (show (bv, ov + k * 2 + 1, .int .i64 y2) ∈ _ from by simp)
                  refine wpOp_plain rfl rfl ?_
                  simp only [updAll, Act.put, List.setIfInBounds_toArray, List.set_cons_zero, List.set_cons_succ] at hK' ⊢
                  go_wp2
                  exact hK'
                · refine ⟨b0, b1, b2, b3, b4, true, b6, b7, b8, b9, b10, b11, b12, b13, b14, b15, v37, v38, v39, v40, v41, _, v43, v44, v45, v46, v36, v47, v48, v10, v11, by rfl, ?_, f0, f1, f2, f3, f4, fun _ => rfl, f6, f7, f8, f9, f10, f11, f12, f15, g13, hM, hz, x13⟩
                  rw [← hA0]
                  simp [updAll, Act.put]
              · obtain rfl : b6 = false := by simpa using hlst
                obtain rfl := Option.some.inj (show some _ = some oop from hopi)
                refine step_to (a' := (updAll A0 [(37, v37), (38, v38), (39, v39), (40, v40), (41, v41), (42, v42), (43, v43), (44, v44), (45, v45), (46, v46), (36, v36), (47, v47), (48, v48), (10, v10), (11, v11)]).put (some 43) ((.int .i64 k))) (w' := W) ?_ ?_
                · intro K' hK'
                  subst hA0
                  have c0 := hM.at_ (show (bu, ou + k * 2, .int .i64 x1) ∈ _ from by simp); have c1 := hM.at_ (show (bu, ou + k * 2 + 1, .int .i64 x2) ∈ _ from by simp); have c2 := hM.at_ (show (bv, ov + k * 2, .int .i64 y1) ∈ _ from by simp); have c3 := hM.at_ (show (bv, ov + k * 2 + 1, .int .i64 y2) ∈ _ from by simp)
                  refine wpOp_plain rfl rfl ?_
                  simp only [updAll, Act.put, List.setIfInBounds_toArray, List.set_cons_zero, List.set_cons_succ] at hK' ⊢
                  go_wp2
                  exact hK'
                · refine ⟨b0, b1, b2, b3, b4, b5, true, b7, b8, b9, b10, b11, b12, b13, b14, b15, v37, v38, v39, v40, v41, v42, _, v44, v45, v46, v36, v47, v48, v10, v11, by rfl, ?_, f0, f1, f2, f3, f4, f5, fun _ => rfl, f7, f8, f9, f10, f11, f12, f15, g13, hM, hz, x13⟩
                  rw [← hA0]
                  simp [updAll, Act.put]
              · obtain rfl : b7 = false := by simpa using hlst
                obtain rfl := Option.some.inj (show some _ = some oop from hopi)
                obtain rfl : b5 = true := by
                  rcases Bool.eq_false_or_eq_true b5 with hbb | hbb
                  · exact hbb
                  · exfalso; subst hbb; revert hdep; simp [Region.binds]
                obtain rfl : b6 = true := by
                  rcases Bool.eq_false_or_eq_true b6 with hbb | hbb
                  · exact hbb
                  · exfalso; subst hbb; revert hdep; simp [Region.binds]
                have e5 := f5 rfl
                subst e5
                have e6 := f6 rfl
                subst e6
                refine step_to (a' := (updAll A0 [(37, v37), (38, v38), (39, v39), (40, v40), (41, v41), (42, (.slice (some ⟨bv, ov, none⟩) ls.length cb)), (43, (.int .i64 k)), (44, v44), (45, v45), (46, v46), (36, v36), (47, v47), (48, v48), (10, v10), (11, v11)]).put (some 44) ((.pointer (some ⟨bv, ov + k * 2, none⟩)))) (w' := W) ?_ ?_
                · intro K' hK'
                  subst hA0
                  have c0 := hM.at_ (show (bu, ou + k * 2, .int .i64 x1) ∈ _ from by simp); have c1 := hM.at_ (show (bu, ou + k * 2 + 1, .int .i64 x2) ∈ _ from by simp); have c2 := hM.at_ (show (bv, ov + k * 2, .int .i64 y1) ∈ _ from by simp); have c3 := hM.at_ (show (bv, ov + k * 2 + 1, .int .i64 y2) ∈ _ from by simp)
                  refine wpOp_plain rfl rfl ?_
                  simp only [updAll, Act.put, List.setIfInBounds_toArray, List.set_cons_zero, List.set_cons_succ] at hK' ⊢
                  go_wp2
                  exact hK'
                · refine ⟨b0, b1, b2, b3, b4, true, true, true, b8, b9, b10, b11, b12, b13, b14, b15, v37, v38, v39, v40, v41, (.slice (some ⟨bv, ov, none⟩) ls.length cb), (.int .i64 k), _, v45, v46, v36, v47, v48, v10, v11, by rfl, ?_, f0, f1, f2, f3, f4, fun _ => rfl, fun _ => rfl, fun _ => rfl, f8, f9, f10, f11, f12, f15, g13, hM, hz, x13⟩
                  rw [← hA0]
                  simp [updAll, Act.put]
              · obtain rfl : b8 = false := by simpa using hlst
                obtain rfl := Option.some.inj (show some _ = some oop from hopi)
                obtain rfl : b7 = true := by
                  rcases Bool.eq_false_or_eq_true b7 with hbb | hbb
                  · exact hbb
                  · exfalso; subst hbb; revert hdep; simp [Region.binds]
                have e7 := f7 rfl
                subst e7
                refine step_to (a' := (updAll A0 [(37, v37), (38, v38), (39, v39), (40, v40), (41, v41), (42, v42), (43, v43), (44, (.pointer (some ⟨bv, ov + k * 2, none⟩))), (45, v45), (46, v46), (36, v36), (47, v47), (48, v48), (10, v10), (11, v11)]).put (some 45) ((.agg #[.int .i64 y1, .int .i64 y2]))) (w' := W) ?_ ?_
                · intro K' hK'
                  subst hA0
                  have c0 := hM.at_ (show (bu, ou + k * 2, .int .i64 x1) ∈ _ from by simp); have c1 := hM.at_ (show (bu, ou + k * 2 + 1, .int .i64 x2) ∈ _ from by simp); have c2 := hM.at_ (show (bv, ov + k * 2, .int .i64 y1) ∈ _ from by simp); have c3 := hM.at_ (show (bv, ov + k * 2 + 1, .int .i64 y2) ∈ _ from by simp)
                  refine wpOp_plain rfl rfl ?_
                  simp only [updAll, Act.put, List.setIfInBounds_toArray, List.set_cons_zero, List.set_cons_succ] at hK' ⊢
                  go_wp2
                  exact hK'
                · refine ⟨b0, b1, b2, b3, b4, b5, b6, true, true, b9, b10, b11, b12, b13, b14, b15, v37, v38, v39, v40, v41, v42, v43, (.pointer (some ⟨bv, ov + k * 2, none⟩)), _, v46, v36, v47, v48, v10, v11, by rfl, ?_, f0, f1, f2, f3, f4, f5, f6, fun _ => rfl, fun _ => rfl, f9, f10, f11, f12, f15, g13, hM, hz, x13⟩
                  rw [← hA0]
                  simp [updAll, Act.put]
              · obtain rfl : b9 = false := by simpa using hlst
                obtain rfl := Option.some.inj (show some _ = some oop from hopi)
                obtain rfl : b0 = true := by
                  rcases Bool.eq_false_or_eq_true b0 with hbb | hbb
                  · exact hbb
                  · exfalso; subst hbb; revert hdep; simp [Region.binds]
                obtain rfl : b4 = true := by
                  rcases Bool.eq_false_or_eq_true b4 with hbb | hbb
                  · exact hbb
                  · exfalso; subst hbb; revert hdep; simp [Region.binds]
                obtain rfl : b8 = true := by
                  rcases Bool.eq_false_or_eq_true b8 with hbb | hbb
                  · exact hbb
                  · exfalso; subst hbb; revert hdep; simp [Region.binds]
                have e0 := f0 rfl
                subst e0
                have e4 := f4 rfl
                subst e4
                have e8 := f8 rfl
                subst e8
                refine step_ex (fun a' w' => a' = (updAll A0 [(37, (.func (.func 70) #[] #[])), (38, v38), (39, v39), (40, v40), (41, (.agg #[.int .i64 x1, .int .i64 x2])), (42, v42), (43, v43), (44, v44), (45, (.agg #[.int .i64 y1, .int .i64 y2])), (46, v46), (36, v36), (47, v47), (48, v48), (10, v10), (11, v11)]).put (some 46) ((.tuple #[.agg #[.int .i64 z1, .int .i64 z2], .int .i64 e])) ∧ Below W.heap.size W w') ?_ ?_
                · intro K' hK'
                  subst hA0
                  have c0 := hM.at_ (show (bu, ou + k * 2, .int .i64 x1) ∈ _ from by simp); have c1 := hM.at_ (show (bu, ou + k * 2 + 1, .int .i64 x2) ∈ _ from by simp); have c2 := hM.at_ (show (bv, ov + k * 2, .int .i64 y1) ∈ _ from by simp); have c3 := hM.at_ (show (bv, ov + k * 2 + 1, .int .i64 y2) ∈ _ from by simp)
                  refine wpOp_plain rfl rfl ?_
                  simp only [updAll, Act.put, List.setIfInBounds_toArray, List.set_cons_zero, List.set_cons_succ] at hK' ⊢
                  go_wp2_with (go_at_call 70; refine (GK.out _).mono ?_; rintro e w1 ⟨rfl, hb1⟩)
                  all_goals (first | exact ⟨rfl, hb1⟩ | exact hK' _ _ ⟨rfl, hb1⟩)
                · rintro a' w' ⟨rfl, hb1⟩
                  refine ⟨true, b1, b2, b3, true, b5, b6, b7, true, true, b10, b11, b12, b13, b14, b15, (.func (.func 70) #[] #[]), v38, v39, v40, (.agg #[.int .i64 x1, .int .i64 x2]), v42, v43, v44, (.agg #[.int .i64 y1, .int .i64 y2]), _, v36, v47, v48, v10, v11, by rfl, ?_, fun _ => rfl, f1, f2, f3, fun _ => rfl, f5, f6, f7, fun _ => rfl, fun _ => rfl, f10, f11, f12, f15, g13, hM.step hb1, Nat.le_trans hz hb1.size, x13.step hb1⟩
                  rw [← hA0]
                  simp [updAll, Act.put]
              · obtain rfl : b10 = false := by simpa using hlst
                obtain rfl := Option.some.inj (show some _ = some oop from hopi)
                obtain rfl : b9 = true := by
                  rcases Bool.eq_false_or_eq_true b9 with hbb | hbb
                  · exact hbb
                  · exfalso; subst hbb; revert hdep; simp [Region.binds]
                have e9 := f9 rfl
                subst e9
                refine step_to (a' := (updAll A0 [(37, v37), (38, v38), (39, v39), (40, v40), (41, v41), (42, v42), (43, v43), (44, v44), (45, v45), (46, (.tuple #[.agg #[.int .i64 z1, .int .i64 z2], .int .i64 e])), (36, v36), (47, v47), (48, v48), (10, v10), (11, v11)]).put (some 36) ((.tuple #[.agg #[.int .i64 z1, .int .i64 z2], .int .i64 e]))) (w' := W) ?_ ?_
                · intro K' hK'
                  subst hA0
                  have c0 := hM.at_ (show (bu, ou + k * 2, .int .i64 x1) ∈ _ from by simp); have c1 := hM.at_ (show (bu, ou + k * 2 + 1, .int .i64 x2) ∈ _ from by simp); have c2 := hM.at_ (show (bv, ov + k * 2, .int .i64 y1) ∈ _ from by simp); have c3 := hM.at_ (show (bv, ov + k * 2 + 1, .int .i64 y2) ∈ _ from by simp)
                  refine wpOp_plain rfl rfl ?_
                  simp only [updAll, Act.put, List.setIfInBounds_toArray, List.set_cons_zero, List.set_cons_succ] at hK' ⊢
                  go_wp2
                  exact hK'
                · refine ⟨b0, b1, b2, b3, b4, b5, b6, b7, b8, true, true, b11, b12, b13, b14, b15, v37, v38, v39, v40, v41, v42, v43, v44, v45, (.tuple #[.agg #[.int .i64 z1, .int .i64 z2], .int .i64 e]), _, v47, v48, v10, v11, by rfl, ?_, f0, f1, f2, f3, f4, f5, f6, f7, f8, fun _ => rfl, fun _ => rfl, f11, f12, f15, g13, hM, hz, x13⟩
                  rw [← hA0]
                  simp [updAll, Act.put]
              · obtain rfl : b11 = false := by simpa using hlst
                obtain rfl := Option.some.inj (show some _ = some oop from hopi)
                obtain rfl : b10 = true := by
                  rcases Bool.eq_false_or_eq_true b10 with hbb | hbb
                  · exact hbb
                  · exfalso; subst hbb; revert hdep; simp [Region.binds]
                have e10 := f10 rfl
                subst e10
                refine step_to (a' := (updAll A0 [(37, v37), (38, v38), (39, v39), (40, v40), (41, v41), (42, v42), (43, v43), (44, v44), (45, v45), (46, v46), (36, (.tuple #[.agg #[.int .i64 z1, .int .i64 z2], .int .i64 e])), (47, v47), (48, v48), (10, v10), (11, v11)]).put (some 47) ((.agg #[.int .i64 z1, .int .i64 z2]))) (w' := W) ?_ ?_
                · intro K' hK'
                  subst hA0
                  have c0 := hM.at_ (show (bu, ou + k * 2, .int .i64 x1) ∈ _ from by simp); have c1 := hM.at_ (show (bu, ou + k * 2 + 1, .int .i64 x2) ∈ _ from by simp); have c2 := hM.at_ (show (bv, ov + k * 2, .int .i64 y1) ∈ _ from by simp); have c3 := hM.at_ (show (bv, ov + k * 2 + 1, .int .i64 y2) ∈ _ from by simp)
                  refine wpOp_plain rfl rfl ?_
                  simp only [updAll, Act.put, List.setIfInBounds_toArray, List.set_cons_zero, List.set_cons_succ] at hK' ⊢
                  go_wp2
                  exact hK'
                · refine ⟨b0, b1, b2, b3, b4, b5, b6, b7, b8, b9, true, true, b12, b13, b14, b15, v37, v38, v39, v40, v41, v42, v43, v44, v45, v46, (.tuple #[.agg #[.int .i64 z1, .int .i64 z2], .int .i64 e]), _, v48, v10, v11, by rfl, ?_, f0, f1, f2, f3, f4, f5, f6, f7, f8, f9, fun _ => rfl, fun _ => rfl, f12, f15, g13, hM, hz, x13⟩
                  rw [← hA0]
                  simp [updAll, Act.put]
              · obtain rfl : b12 = false := by simpa using hlst
                obtain rfl := Option.some.inj (show some _ = some oop from hopi)
                obtain rfl : b10 = true := by
                  rcases Bool.eq_false_or_eq_true b10 with hbb | hbb
                  · exact hbb
                  · exfalso; subst hbb; revert hdep; simp [Region.binds]
                have e10 := f10 rfl
                subst e10
                refine step_to (a' := (updAll A0 [(37, v37), (38, v38), (39, v39), (40, v40), (41, v41), (42, v42), (43, v43), (44, v44), (45, v45), (46, v46), (36, (.tuple #[.agg #[.int .i64 z1, .int .i64 z2], .int .i64 e])), (47, v47), (48, v48), (10, v10), (11, v11)]).put (some 48) ((.int .i64 e))) (w' := W) ?_ ?_
                · intro K' hK'
                  subst hA0
                  have c0 := hM.at_ (show (bu, ou + k * 2, .int .i64 x1) ∈ _ from by simp); have c1 := hM.at_ (show (bu, ou + k * 2 + 1, .int .i64 x2) ∈ _ from by simp); have c2 := hM.at_ (show (bv, ov + k * 2, .int .i64 y1) ∈ _ from by simp); have c3 := hM.at_ (show (bv, ov + k * 2 + 1, .int .i64 y2) ∈ _ from by simp)
                  refine wpOp_plain rfl rfl ?_
                  simp only [updAll, Act.put, List.setIfInBounds_toArray, List.set_cons_zero, List.set_cons_succ] at hK' ⊢
                  go_wp2
                  exact hK'
                · refine ⟨b0, b1, b2, b3, b4, b5, b6, b7, b8, b9, true, b11, true, b13, b14, b15, v37, v38, v39, v40, v41, v42, v43, v44, v45, v46, (.tuple #[.agg #[.int .i64 z1, .int .i64 z2], .int .i64 e]), v47, _, v10, v11, by rfl, ?_, f0, f1, f2, f3, f4, f5, f6, f7, f8, f9, fun _ => rfl, f11, fun _ => rfl, f15, g13, hM, hz, x13⟩
                  rw [← hA0]
                  simp [updAll, Act.put]
              · obtain rfl : b13 = false := by simpa using hlst
                obtain rfl := Option.some.inj (show some _ = some oop from hopi)
                have e_st := g13 rfl
                subst e_st
                refine step_to (a' := (updAll A0 [(37, v37), (38, v38), (39, v39), (40, v40), (41, v41), (42, v42), (43, v43), (44, v44), (45, v45), (46, v46), (36, v36), (47, v47), (48, v48), (10, v10), (11, v11)]).put (some 10) (.pointer (some ⟨W.heap.size, 0, none⟩))) (w' := W.alloc (.cells #[.int .i64 0, .int .i64 0] 40)) ?_ ?_
                · intro K' hK'
                  subst hA0
                  refine wpOp_plain rfl rfl ?_
                  simp only [updAll, Act.put, List.setIfInBounds_toArray, List.set_cons_zero, List.set_cons_succ] at hK' ⊢
                  go_wp2
                  exact hK'
                · refine ⟨b0, b1, b2, b3, b4, b5, b6, b7, b8, b9, b10, b11, b12, true, false, b15, v37, v38, v39, v40, v41, v42, v43, v44, v45, v46, v36, v47, v48, _, v11, by rfl, ?_, f0, f1, f2, f3, f4, f5, f6, f7, f8, f9, f10, f11, f12, f15, by simp, hM.alloc, (by first | omega | (simp; omega) | simp), BoxF.new hz⟩
                  rw [← hA0]
                  simp [updAll, Act.put]
              · obtain rfl : b14 = false := by simpa using hlst
                obtain rfl := Option.some.inj (show some _ = some oop from hopi)
                obtain rfl : b13 = true := by
                  rcases Bool.eq_false_or_eq_true b13 with hbb | hbb
                  · exact hbb
                  · exfalso; subst hbb; revert hdep; simp [Region.binds]
                obtain rfl : b11 = true := by
                  rcases Bool.eq_false_or_eq_true b11 with hbb | hbb
                  · exact hbb
                  · exfalso; subst hbb; revert hdep; simp [Region.binds]
                have e11 := f11 rfl
                subst e11
                obtain ⟨r, hr1, hr2, hr3⟩ := x13 rfl
                subst hr1
                simp only [Bool.false_eq_true, if_false] at hr3
                refine step_to (a' := updAll A0 [(37, v37), (38, v38), (39, v39), (40, v40), (41, v41), (42, v42), (43, v43), (44, v44), (45, v45), (46, v46), (36, v36), (47, (.agg #[.int .i64 z1, .int .i64 z2])), (48, v48), (10, (.pointer (some ⟨r, 0, none⟩))), (11, v11)]) (w' := ((W.setCell ⟨r, 0, none⟩ (.int .i64 z1)).setCell ⟨r, 1, none⟩ (.int .i64 z2))) ?_ ?_
                · intro K' hK'
                  subst hA0
                  have q0 := blk_cell (o := 0) hr3 rfl
                  have p0 := blk_free (o := 0) hr3
                  have q1 := blk_cell (o := 1) hr3 rfl
                  have p1 := blk_free (o := 1) hr3
                  refine wpOp_plain rfl rfl ?_
                  simp only [updAll, Act.put, List.setIfInBounds_toArray, List.set_cons_zero, List.set_cons_succ] at hK' ⊢
                  go_wp2
                  exact hK'
                · exact ⟨b0, b1, b2, b3, b4, b5, b6, b7, b8, b9, b10, true, b12, true, true, b15, v37, v38, v39, v40, v41, v42, v43, v44, v45, v46, v36, (.agg #[.int .i64 z1, .int .i64 z2]), v48, (.pointer (some ⟨r, 0, none⟩)), v11, by rfl, rfl, f0, f1, f2, f3, f4, f5, f6, f7, f8, f9, f10, fun _ => rfl, f12, f15, by simp, ((hM.set (by omega)).set (by omega)), by simpa using hz, fun _ => ⟨r, rfl, hr2, (blk_set (blk_set hr3))⟩⟩
              · obtain rfl : b15 = false := by simpa using hlst
                obtain rfl := Option.some.inj (show some _ = some oop from hopi)
                obtain rfl : b12 = true := by
                  rcases Bool.eq_false_or_eq_true b12 with hbb | hbb
                  · exact hbb
                  · exfalso; subst hbb; revert hdep; simp [Region.binds]
                have e12 := f12 rfl
                subst e12
                refine step_to (a' := (updAll A0 [(37, v37), (38, v38), (39, v39), (40, v40), (41, v41), (42, v42), (43, v43), (44, v44), (45, v45), (46, v46), (36, v36), (47, v47), (48, (.int .i64 e)), (10, v10), (11, v11)]).put (some 11) ((.int .i64 e))) (w' := W) ?_ ?_
                · intro K' hK'
                  subst hA0
                  have c0 := hM.at_ (show (bu, ou + k * 2, .int .i64 x1) ∈ _ from by simp); have c1 := hM.at_ (show (bu, ou + k * 2 + 1, .int .i64 x2) ∈ _ from by simp); have c2 := hM.at_ (show (bv, ov + k * 2, .int .i64 y1) ∈ _ from by simp); have c3 := hM.at_ (show (bv, ov + k * 2 + 1, .int .i64 y2) ∈ _ from by simp)
                  refine wpOp_plain rfl rfl ?_
                  simp only [updAll, Act.put, List.setIfInBounds_toArray, List.set_cons_zero, List.set_cons_succ] at hK' ⊢
                  go_wp2
                  exact hK'
                · refine ⟨b0, b1, b2, b3, b4, b5, b6, b7, b8, b9, b10, b11, true, b13, b14, true, v37, v38, v39, v40, v41, v42, v43, v44, v45, v46, v36, v47, (.int .i64 e), v10, _, by rfl, ?_, f0, f1, f2, f3, f4, f5, f6, f7, f8, f9, f10, f11, fun _ => rfl, fun _ => rfl, g13, hM, hz, x13⟩
                  rw [← hA0]
                  simp [updAll, Act.put]
            case done =>
              rintro l a W ⟨b0, b1, b2, b3, b4, b5, b6, b7, b8, b9, b10, b11, b12, b13, b14, b15, v37, v38, v39, v40, v41, v42, v43, v44, v45, v46, v36, v47, v48, v10, v11, rfl, rfl, f0, f1, f2, f3, f4, f5, f6, f7, f8, f9, f10, f11, f12, f15, g13, hM, hz, x13⟩ hall
              obtain rfl : b0 = true := by simpa using hall 0 (by decide)
              obtain rfl : b1 = true := by simpa using hall 1 (by decide)
              obtain rfl : b2 = true := by simpa using hall 2 (by decide)
              obtain rfl : b3 = true := by simpa using hall 3 (by decide)
              obtain rfl : b4 = true := by simpa using hall 4 (by decide)
              obtain rfl : b5 = true := by simpa using hall 5 (by decide)
              obtain rfl : b6 = true := by simpa using hall 6 (by decide)
              obtain rfl : b7 = true := by simpa using hall 7 (by decide)
              obtain rfl : b8 = true := by simpa using hall 8 (by decide)
              obtain rfl : b9 = true := by simpa using hall 9 (by decide)
              obtain rfl : b10 = true := by simpa using hall 10 (by decide)
              obtain rfl : b11 = true := by simpa using hall 11 (by decide)
              obtain rfl : b12 = true := by simpa using hall 12 (by decide)
              obtain rfl : b13 = true := by simpa using hall 13 (by decide)
              obtain rfl : b14 = true := by simpa using hall 14 (by decide)
              obtain rfl : b15 = true := by simpa using hall 15 (by decide)
              have e0 := f0 rfl
              subst e0
              have e1 := f1 rfl
              subst e1
              have e2 := f2 rfl
              subst e2
              have e3 := f3 rfl
              subst e3
              have e4 := f4 rfl
              subst e4
              have e5 := f5 rfl
              subst e5
              have e6 := f6 rfl
              subst e6
              have e7 := f7 rfl
              subst e7
              have e8 := f8 rfl
              subst e8
              have e9 := f9 rfl
              subst e9
              have e10 := f10 rfl
              subst e10
              have e11 := f11 rfl
              subst e11
              have e12 := f12 rfl
              subst e12
              have e15 := f15 rfl
              subst e15
              obtain ⟨r13, e13, k13, m13⟩ := x13 rfl
              subst e13
              simp only [if_true] at m13
              subst hA0
              simp only [updAll, Act.put, List.setIfInBounds_toArray, List.set_cons_zero, List.set_cons_succ]
              have d1 := blk_cell (o := 0) m13 rfl
              have d2 := blk_cell (o := 1) m13 rfl
              have hN := hM.bel
              have HO := Lib.hid (HO.out.step hN)
              have hb0 := blk_lt m13
              clear m13 hM k13 HC
              by_cases he : e = 0
              · subst he
                have HX2 := HX.out
                clear HX
                go_wp2_with (at_builtin; refine wpList_append_own _ rfl _ _ 47 rfl (w.heap.size) 40 i0 (.agg #[.int .i64 0, .int .i64 0]) 2 16 Try.underlying47 hi hz0 hz1 hz2 rfl (by decide) _ _ _ rfl (World.ownsRow.alloc HO.out _) ⟨W.heap.size, 0, none⟩ 1 1 [.int .i64 z1, .int .i64 z2] rfl rfl (two_cells _ _ _ _) (two_one _ _) (by have := HL.out; unfold maxLen; omega) (by have := HL.out; omega) (by have := kB.size; have := hN.size; simp; omega) ?_; intro v' w1 hown hgrow _)
                · skip
                  have hO2 : SpOwn w1 w.heap.size v' (outs hullS ls m (k + 1)) := by rw [HX2]; exact SpOwn.more hown
                  have kW : Below w.heap.size w w1 := (bAlloc (bStep kB hN) _).grown hgrow (by have := kB.size; have := hN.size; simp; omega) (own_ge HO.out)
                  clear hown hgrow HO HX2 HL d1 d2 hb0 hN
                  go_wp2
                  go_roundw
                  case rel => exact ⟨k + 1, by omega, by go_num, kW, hO2, HI2.out (by first | rfl | trivial)⟩
                  case measure => (simp [intOf]; omega)
              · obtain rfl := HN2.out he
                go_wp2_with fail
                go_ret2
                exact ⟨_, rfl, SpRow.nil, bStep kB hN⟩
          · obtain rfl : k = ls.length := by omega
            have hR : R = (outs hullS ls m ls.length, 0) := by rw [HP.out, firstErr_none HI.out, if_pos rfl]
            subst hR
            obtain ⟨ao, co, rfl, hO⟩ := HO.out.at_
            clear HP HI HA HB HO H3
            go_wp2_with fail
            go_ret2
            exact ⟨_, rfl, hO.row, kB⟩
      · have hp : pairsS hullS ls m = ([], 20) := by
          unfold pairsS
          rw [if_neg h8, if_neg (fun h => h ⟨h1, h2⟩), if_pos h3]
        rw [hp]
        have h3' : (ls.length : Int) ≠ (m.length : Int) := by omega
        clear hp h1 h2 h8 hl hm hA hB
        go_enter Try.func66, Try.ntmps66
        go_wp2_with (go_at_call 54; first | (with_reducible refine (V.out _ HV.out).mono ?_; rintro e w1 ⟨rfl, hb1⟩; have hx := HU.out.step hb1; clear HU; have HU := Lib.hid hx; clear hx) | (with_reducible refine (U.out _ HU.out).mono ?_; rintro e w2 ⟨rfl, hb2⟩))
        go_ret2
        exact ⟨_, rfl, SpRow.nil, (by repeat' (first | exact Below.refl _ _ | assumption | apply bDrewN | apply bDrew | apply bAlloc | (refine bSet ?_ ?_ _) | (refine bStep ?_ (by assumption)) | omega | (simp <;> omega)))⟩
    · have hp : pairsS hullS ls m = ([], 2) := by
        unfold pairsS
        rw [if_neg h8, if_pos (fun h => h2 h.2)]
      rw [hp]
      rw [h1] at V
      rw [Bool.eq_false_iff.2 h2] at U
      clear hp h1 h2 h8 hl hm hA hB
      go_enter Try.func66, Try.ntmps66
      go_wp2_with (go_at_call 54; first | (with_reducible refine (V.out _ HV.out).mono ?_; rintro e w1 ⟨rfl, hb1⟩; have hx := HU.out.step hb1; clear HU; have HU := Lib.hid hx; clear hx) | (with_reducible refine (U.out _ HU.out).mono ?_; rintro e w2 ⟨rfl, hb2⟩))
      go_ret2
      exact ⟨_, rfl, SpRow.nil, (by repeat' (first | exact Below.refl _ _ | assumption | apply bDrewN | apply bDrew | apply bAlloc | (refine bSet ?_ ?_ _) | (refine bStep ?_ (by assumption)) | omega | (simp <;> omega)))⟩
  · have hp : pairsS hullS ls m = ([], 2) := by
      unfold pairsS
      rw [if_neg h8, if_pos (fun h => h1 h.1)]
    rw [hp]
    rw [Bool.eq_false_iff.2 h1] at V
    clear hp h1 h8 hl hm hA hB
    go_enter Try.func66, Try.ntmps66
    go_wp2_with (go_at_call 54; (with_reducible refine (V.out _ HV.out).mono ?_); rintro e w1 ⟨rfl, hb1⟩)
    go_ret2
    exact ⟨_, rfl, SpRow.nil, (by repeat' (first | exact Below.refl _ _ | assumption | apply bDrewN | apply bDrew | apply bAlloc | (refine bSet ?_ ?_ _) | (refine bStep ?_ (by assumption)) | omega | (simp <;> omega)))⟩



set_option maxHeartbeats 1000000 in
theorem BoxMeet_row (v u : Value) (l m : List (Int × Int)) (w : World) (hl : l.length ≤ 1000000) (hm : m.length ≤ 1000000) (hv : SpRow v l w) (hu : SpRow u m w) :
    Calls Try.prog 25 #[v, u] w fun e w' => ∃ x, e = .returned (.tuple #[x, .int .i64 (pairsS meetS l m).2]) ∧ SpRow x (pairsS meetS l m).1 w' ∧ Below w.heap.size w w' := by
  have A := Lib.hid (fun w h1 h2 => pairs_meet v u l m w hl hm h1 h2)
  have HV := Lib.hid hv
  have HU := Lib.hid hu
  clear hv hu
  generalize pairsS meetS l m = r at *
  obtain ⟨L, e⟩ := r
  dsimp only at *
  go_enter Try.func25, Try.ntmps25
  go_wp2_with (go_at_call 66; refine (A.out _ HV.out HU.out).mono ?_; rintro e w2 ⟨x, rfl, hx, hb2⟩)
  go_ret2
  exact ⟨_, rfl, hx, hb2⟩

set_option maxHeartbeats 1000000 in
theorem BoxHull_row (v u : Value) (l m : List (Int × Int)) (w : World) (hl : l.length ≤ 1000000) (hm : m.length ≤ 1000000) (hv : SpRow v l w) (hu : SpRow u m w) :
    Calls Try.prog 28 #[v, u] w fun e w' => ∃ x, e = .returned (.tuple #[x, .int .i64 (pairsS hullS l m).2]) ∧ SpRow x (pairsS hullS l m).1 w' ∧ Below w.heap.size w w' := by
  have A := Lib.hid (fun w h1 h2 => pairs_hull v u l m w hl hm h1 h2)
  have HV := Lib.hid hv
  have HU := Lib.hid hu
  clear hv hu
  generalize pairsS hullS l m = r at *
  obtain ⟨L, e⟩ := r
  dsimp only at *
  go_enter Try.func28, Try.ntmps28
  go_wp2_with (go_at_call 66; refine (A.out _ HV.out HU.out).mono ?_; rintro e w2 ⟨x, rfl, hx, hb2⟩)
  go_ret2
  exact ⟨_, rfl, hx, hb2⟩


end Go.Proofs.Ytngnehlmbipabaa
