/-
  The reference's Valid, Text, Parse.
-/
import Derived.Test.YtolnbblikfpnbaaDoorQf
set_option linter.unusedSimpArgs false
set_option linter.unusedVariables false
namespace Go.Proofs.YtolnbblikfpnbaaDoor
open Sx Go.RowKit
set_option maxHeartbeats 400000 in
theorem Valid_any (a b : Int) (w : World) : Calls Tryd.prog 20 #[.agg #[.int .i64 a, .int .i64 b]] w fun e w' => e = .returned (.bool (okS (a, b))) ∧ Below w.heap.size w w' := by
  have hq : okS (a, b) = (isQ a && isQ b && decide (a ≤ b)) := rfl
  rw [hq]; clear hq
  cases h1 : isQ a <;> cases h2 : isQ b <;> cases h3 : decide (a ≤ b)
  all_goals
    go_enter Tryd.func20, Tryd.ntmps20
    go_wp2_with (go_at_call 39; refine (Is_any _ _).mono ?_; rintro e w' ⟨rfl, rfl⟩)
    go_ret
    exact ⟨rfl, (by repeat' (first | exact Below.refl _ _ | assumption | apply bDrewN | apply bDrew | apply bAlloc | (refine bSet ?_ ?_ _) | (refine bStep ?_ (by assumption)) | omega | (simp <;> omega)))⟩
/-- A place at which the reference's Parse finds a span. -/
def hit (l : List UInt8) (j : Nat) : Bool := Lib.occAt l [46, 46] j && isN (l.take j) && isN (l.drop (j + 2)) && okS (sv (l.take j), sv (l.drop (j + 2)))
theorem hit_txt {l : List UInt8} {j : Nat} (h : hit l j = true) (hj : j ≤ l.length) : parS l = some (sv (l.take j), sv (l.drop (j + 2))) := by
  unfold hit at h
  simp only [Bool.and_eq_true] at h
  obtain ⟨⟨⟨h1, h2⟩, h3⟩, h4⟩ := h
  obtain ⟨r, hr⟩ := occ_iff.1 h1
  have e : l.drop (j + 2) = r := by rw [← List.drop_drop, hr]; rfl
  have hl := occ_txt hr hj
  rw [← e] at hl
  have ht : l = txtP (sv (l.take j), sv (l.drop (j + 2))) := by
    unfold txtP
    dsimp only
    rw [(isN_iff.1 h2).2, (isN_iff.1 h3).2]
    exact hl
  generalize sv (l.take j) = x at *
  generalize sv (l.drop (j + 2)) = y at *
  rw [ht]
  exact parS_some (okS_P.1 h4)
theorem no_hit {l : List UInt8} (h : ∀ j, j + 1 < l.length → hit l j = false) : parS l = none := by
  refine parS_none fun p hp e => ?_
  have hlen : (Lib.itoa p.1).length + 1 < l.length := by rw [e]; unfold txtP; simp
  have h1 := h _ hlen
  have e1 : l.take (Lib.itoa p.1).length = Lib.itoa p.1 := by rw [e]; unfold txtP; simp
  have e2 : l.drop ((Lib.itoa p.1).length + 2) = Lib.itoa p.2 := by rw [e]; unfold txtP; simp
  have e3 : Lib.occAt l [46, 46] (Lib.itoa p.1).length = true := occ_iff.2 ⟨Lib.itoa p.2, by rw [e]; unfold txtP; simp⟩
  have b := hp
  obtain ⟨b1, b2, b3⟩ := b
  unfold hit at h1
  rw [e1, e2, e3, sv_itoa, sv_itoa, isN_itoa (okP_len b1 (by omega)), isN_itoa (okP_len (by omega) b3)] at h1
  rw [show okS (p.1, p.2) = true from okS_P.2 hp] at h1
  cases h1
theorem occ_at {l : List UInt8} {j : Nat} (h : j + 1 < l.length) : Lib.occAt l [46, 46] j = (decide (l[j]'(by omega) = 46) && decide (l[j + 1] = 46)) := by
  have e : l.drop j = l[j]'(by omega) :: l[j + 1] :: l.drop (j + 2) := by
    rw [List.drop_eq_getElem_cons (by omega), List.drop_eq_getElem_cons h]
  unfold Lib.occAt
  rw [e]
  generalize l[j]'(by omega) = a
  generalize l[j + 1] = b
  simp only [List.isPrefixOf, Bool.and_true]
  by_cases h1 : a = 46 <;> by_cases h2 : b = 46 <;> simp [h1, h2] <;> first | rfl | (intro q; exact absurd q.symm h2) | (intro q; exact absurd q.symm h1) | skip
set_option maxHeartbeats 1000000 in
set_option maxRecDepth 20000 in
theorem RText_any (p : Int × Int) (w : World) : Calls Tryd.prog 7 #[.agg #[.int .i64 p.1, .int .i64 p.2]] w fun e w' => e = .returned (.tuple #[.string (textR p).1, .int .i64 (textR p).2]) ∧ Below w.heap.size w w' := by
  obtain ⟨x, y⟩ := p
  unfold textR
  have V := Lib.hid (fun w => Valid_any x y w)
  cases hk : okS (x, y)
  · rw [if_neg (by decide)]
    rw [hk] at V
    dsimp only
    go_enter Tryd.func7, Tryd.ntmps7
    go_wp2_with (go_at_call 20; refine (V.out _).mono ?_; rintro e w1 ⟨rfl, hb1⟩; obtain ⟨hcw1, hfw1⟩ := bcell hb1; have hzw1 := Below.size hb1; (try simp at hzw1); have hzw10 : w.heap.size < w1.heap.size := (by omega))
    exact bodyPost_ret (v := .tuple #[.string ⟨#[]⟩, .int .i64 2]) (by simp only [results, Tryd.results7]; go_simp) rfl ⟨rfl, (by repeat' (first | exact Below.refl _ _ | assumption | apply bDrewN | apply bDrew | apply bAlloc | (refine bSet ?_ ?_ _) | (refine bStep ?_ (by assumption)) | omega | (simp <;> omega)))⟩
  · rw [if_pos rfl]
    rw [hk] at V
    dsimp only
    obtain ⟨b1, b2, b3⟩ := okS_P.1 hk
    dsimp only at b1 b2 b3
    have C1 := Lib.hid (fun W => Digits_any x (by omega) (by omega) W)
    have C2 := Lib.hid (fun W => Digits_any y (by omega) (by omega) W)
    have l1 := okP_len b1 (by omega)
    have l2 := okP_len (by omega) b3
    unfold txtP
    dsimp only
    generalize Lib.itoa x = lx at *
    generalize Lib.itoa y = ly at *
    have q1 : ¬ 9223372036854775807 < lx.length + 2 := by omega
    have q2 : ¬ 9223372036854775807 < lx.length + 2 + ly.length := by omega
    clear b1 b2 b3 l1 l2
    go_enter Tryd.func7, Tryd.ntmps7
    go_wp2_with (go_at_call 20; refine (V.out _).mono ?_; rintro e w1 ⟨rfl, hb⟩)
    have c0 : w1.cell? ⟨w.heap.size, 0, none⟩ = some (.int .i64 x) := (hb.cell (p := ⟨w.heap.size, 0, none⟩) (by simp)).trans (by go_simp)
    have c1 : w1.cell? ⟨w.heap.size, 1, none⟩ = some (.int .i64 y) := (hb.cell (p := ⟨w.heap.size, 1, none⟩) (by simp)).trans (by go_simp)
    have f0 : ∀ s : WStep w1, s.1.cell? ⟨w.heap.size, 0, none⟩ = some (.int .i64 x) := fun s => cell_step c0 s.2
    have f1 : ∀ s : WStep w1, s.1.cell? ⟨w.heap.size, 1, none⟩ = some (.int .i64 y) := fun s => cell_step c1 s.2
    have HK := Lib.hid (bStep (bAlloc (Below.refl w.heap.size w) _) hb)
    have CX := Lib.hid (fun s : WStep w1 => step_call s (C1.out s.1))
    have CY := Lib.hid (fun s : WStep w1 => step_call s (C2.out s.1))
    clear c0 c1 C1 C2 hb
    refine wp_region_step (by kernel_rfl) (by kernel_rfl) ?_
    repeat (quiet_step (first | (with_reducible exact CX.out _) | (with_reducible exact CY.out _)))
    refine wpQuiet_nil ?_
    intro _ hw'
    obtain ⟨⟨W2, hW2⟩, hw''⟩ := hw'
    dsimp only at hw''
    subst hw''
    go_wp2_with fail
    exact bodyPost_ret (v := .tuple #[.string ((⟨lx.toArray⟩ ++ ⟨#[46, 46]⟩) ++ ⟨ly.toArray⟩), .int .i64 0]) (by simp only [results, Tryd.results7]; go_simp) rfl ⟨by rw [txt_app'], bStep HK.out hW2⟩
theorem ext_take {s : ByteArray} {k : Nat} : (s.extract 0 k).data.toList = s.data.toList.take k := by rw [Lib.extract_eq]; simp
theorem ext_drop {s : ByteArray} {k : Nat} : (s.extract k s.size).data.toList = s.data.toList.drop k := by
  rw [Lib.extract_eq]
  simp only [List.toList_toArray]
  exact List.take_of_length_le (by rw [List.length_drop, ← Lib.size_eq]; exact Nat.le_refl _)
theorem parR_some {l : List UInt8} {p : Int × Int} (h : parS l = some p) : parR l = (p, 0) := by unfold parR; rw [h]
theorem parR_none {l : List UInt8} (h : parS l = none) : parR l = ((0, 0), 8) := by unfold parR; rw [h]
theorem ne46 {c : UInt8} (h : ¬ c = 46) : ((c.toNat : Int) != 46) = true := by
  simp only [bne_iff_ne, ne_eq]
  intro q
  exact h (UInt8.toNat_inj.1 (by rw [show (46 : UInt8).toNat = 46 from rfl]; omega))
/-- Number, told by the number that is asked for. -/
theorem Number_no {s : ByteArray} {l : List UInt8} (e : s.data.toList = l) (h : isN l = false) (w : World) : Calls Tryd.prog 24 #[.string s] w fun e w' => (∃ v, e = .returned (.tuple #[.int .i64 v, .bool false])) ∧ Below w.heap.size w w' := by
  have q := Number_any s w
  rw [e, h] at q
  exact q.mono fun e w' h => by
    obtain ⟨⟨v, rfl, -⟩, hb⟩ := h
    exact ⟨⟨v, rfl⟩, hb⟩
theorem Number_yes {s : ByteArray} {l : List UInt8} {x : Int} (e : s.data.toList = l) (h : isN l = true) (hx : sv l = x) (w : World) : Calls Tryd.prog 24 #[.string s] w fun e w' => e = .returned (.tuple #[.int .i64 x, .bool true]) ∧ Below w.heap.size w w' := by
  have q := Number_any s w
  rw [e, h, hx] at q
  exact q.mono fun e w' h => by
    obtain ⟨⟨v, rfl, hv⟩, hb⟩ := h
    rw [hv rfl]
    exact ⟨rfl, hb⟩
theorem val3 {r : (Int × Int) × Int} {x y e a b c : Int} (h1 : r = ((x, y), e)) (h2 : r = ((a, b), c)) : Ending.returned (.tuple #[.agg #[.int .i64 a, .int .i64 b], .int .i64 c]) = Ending.returned (.tuple #[.agg #[.int .i64 x, .int .i64 y], .int .i64 e]) := by
  rw [h1] at h2
  cases h2
  rfl
set_option maxHeartbeats 4000000 in
set_option maxRecDepth 20000 in
theorem RParse_any (s : ByteArray) (w : World) (hs : s.size ≤ 1000000) : Calls Tryd.prog 9 #[.string s] w fun e w' => e = .returned (.tuple #[.agg #[.int .i64 (parR s.data.toList).1.1, .int .i64 (parR s.data.toList).1.2], .int .i64 (parR s.data.toList).2]) ∧ Below w.heap.size w w' := by
  rcases hR : parR s.data.toList with ⟨⟨rx, ry⟩, re⟩
  have HR := Lib.hid hR
  clear hR
  dsimp only
  have hsz : s.data.toList.length = s.size := (Lib.size_eq s).symm
  have B0 := Lib.hid (blk_new w (.cells #[.int .i64 0, .int .i64 0] 23))
  go_enter Tryd.func9, Tryd.ntmps9
  go_wp2_with fail
  go_loopw [4, 5, 6, 7, 8, 9] (fun i _ _ _ _ _ wr => ∃ k : Nat, k ≤ s.size ∧ i = .int .i64 k ∧ Hid (∀ j, j < k → hit s.data.toList j = false) ∧ Hid (wr.heap[w.heap.size]? = some (.cells #[.int .i64 0, .int .i64 0] 23)) ∧ Below w.heap.size w wr) (fun i _ _ _ _ _ _ => s.size - (intOf i).toNat)
  case atStart => exact ⟨0, by omega, rfl, fun j hj => absurd hj (Nat.not_lt_zero _), B0.out, (by repeat' (first | exact Below.refl _ _ | assumption | apply bDrewN | apply bDrew | apply bAlloc | (refine bSet ?_ ?_ _) | (refine bStep ?_ (by assumption)) | omega | (simp <;> omega)))⟩
  case round =>
    obtain ⟨k, hk, rfl, HH, HB, kB⟩ := hrel
    obtain ⟨c0, c1, z0, z1, k0⟩ := rb_open HB.out
    by_cases hk2 : k + 1 < s.size
    · have hk3 : (k : Int) + 1 < s.size := by omega
      have hk4 : k < s.size := by omega
      have hkl : k + 1 < s.data.toList.length := by omega
      have g0 : s.data.toList[k]'(by omega) = s[k] := Array.getElem_toList _
      have g1 : s.data.toList[k + 1]'hkl = s[k + 1] := Array.getElem_toList _
      have ho := occ_at hkl
      rw [g0, g1] at ho
      clear g0 g1
      by_cases h0 : s[k] = 46
      · have d0 : ((s[k].toNat : Int) != 46) = false := by rw [h0]; rfl
        by_cases h1 : s[k + 1] = 46
        · have d1 : ((s[k + 1].toNat : Int) != 46) = false := by rw [h1]; rfl
          rw [decide_eq_true h0, decide_eq_true h1] at ho
          have B1 := Lib.hid HB.out
          have hht : Hid (hit s.data.toList k = (isN (s.data.toList.take k) && isN (s.data.toList.drop (k + 2)) && okS (sv (s.data.toList.take k), sv (s.data.toList.drop (k + 2))))) := by unfold Hid hit; rw [ho]; simp
          have hsome := fun h => parR_some (hit_txt (l := s.data.toList) (j := k) h (by omega))
          have ea := ext_take (s := s) (k := k)
          have eb := ext_drop (s := s) (k := k + 2)
          clear ho h0 h1
          generalize s.data.toList.take k = la at *
          generalize s.data.toList.drop (k + 2) = lb at *
          cases hna : isN la with
          | false =>
            have CA := Lib.hid (fun W => Number_no ea hna W)
            have CB := Lib.hid (fun W => Number_any (s.extract (k + 2) s.size) W)
            have HX : Hid (hit s.data.toList k = false) := by unfold Hid; rw [hht.out, hna]; rfl
            clear hht hsome hna ea eb
            go_wp2_with (first
            | (go_at_call 24; (with_reducible refine (CA.out _).mono ?_); rintro e w2 ⟨⟨v1, rfl⟩, hb2⟩; replace B1 := Lib.hid (blk_step B1.out hb2); obtain ⟨c0, c1, z0, z1, k0⟩ := rb_open B1.out)
            | (go_at_call 24; (with_reducible refine (CB.out _).mono ?_); rintro e w3 ⟨⟨v2, rfl, -⟩, hb3⟩; replace B1 := Lib.hid (blk_step B1.out hb3); obtain ⟨c0, c1, z0, z1, k0⟩ := rb_open B1.out))
            refine ⟨⟨k + 1, by omega, by push_cast; rfl, fun j hj => ?_, by first | exact B1.out | exact blk_alloc B1.out, (by repeat' (first | exact Below.refl _ _ | assumption | apply bDrewN | apply bDrew | apply bAlloc | (refine bSet ?_ ?_ _) | (refine bStep ?_ (by assumption)) | omega | (simp <;> omega)))⟩, by simp [intOf]; omega⟩
            rcases Nat.lt_or_ge j k with h | h
            · exact HH.out j h
            · obtain rfl : j = k := by omega
              exact HX.out
          | true =>
            obtain ⟨x, hx⟩ : ∃ x, sv la = x := ⟨_, rfl⟩
            have CA := Lib.hid (fun W => Number_yes ea hna hx W)
            cases hnb : isN lb with
            | false =>
              have CB := Lib.hid (fun W => Number_no eb hnb W)
              have HX : Hid (hit s.data.toList k = false) := by unfold Hid; rw [hht.out, hnb]; simp
              clear hht hsome hna hnb ea eb hx
              go_wp2_with (first
              | (go_at_call 24; (with_reducible refine (CA.out _).mono ?_); rintro e w2 ⟨rfl, hb2⟩; replace B1 := Lib.hid (blk_step B1.out hb2); obtain ⟨c0, c1, z0, z1, k0⟩ := rb_open B1.out)
              | (go_at_call 24; (with_reducible refine (CB.out _).mono ?_); rintro e w3 ⟨⟨v2, rfl⟩, hb3⟩; replace B1 := Lib.hid (blk_step B1.out hb3); obtain ⟨c0, c1, z0, z1, k0⟩ := rb_open B1.out))
              refine ⟨⟨k + 1, by omega, by push_cast; rfl, fun j hj => ?_, by first | exact B1.out | exact blk_alloc B1.out, (by repeat' (first | exact Below.refl _ _ | assumption | apply bDrewN | apply bDrew | apply bAlloc | (refine bSet ?_ ?_ _) | (refine bStep ?_ (by assumption)) | omega | (simp <;> omega)))⟩, by simp [intOf]; omega⟩
              rcases Nat.lt_or_ge j k with h | h
              · exact HH.out j h
              · obtain rfl : j = k := by omega
                exact HX.out
            | true =>
              obtain ⟨y, hy⟩ : ∃ y, sv lb = y := ⟨_, rfl⟩
              have CB := Lib.hid (fun W => Number_yes eb hnb hy W)
              have CV := Lib.hid (fun W => Valid_any x y W)
              rw [hx, hy] at hsome
              have hht2 := hht.out
              rw [hx, hy, hna, hnb] at hht2
              cases hk9 : okS (x, y) with
              | false =>
                rw [hk9] at CV hht2
                have HX : Hid (hit s.data.toList k = false) := by unfold Hid; rw [hht2]; rfl
                clear hht hht2 hsome hna hnb ea eb hx hy hk9
                go_wp2_with (first
                | (go_at_call 24; (with_reducible refine (CA.out _).mono ?_); rintro e w2 ⟨rfl, hb2⟩; replace B1 := Lib.hid (blk_step B1.out hb2); obtain ⟨c0, c1, z0, z1, k0⟩ := rb_open B1.out)
                | (go_at_call 24; (with_reducible refine (CB.out _).mono ?_); rintro e w3 ⟨rfl, hb3⟩; replace B1 := Lib.hid (blk_step B1.out hb3); obtain ⟨c0, c1, z0, z1, k0⟩ := rb_open B1.out)
                | (go_at_call 20; refine (CV.out _).mono ?_; rintro e w4 ⟨rfl, hb4⟩; have X0 := blk_step (blk_new w3 (.cells #[.int .i64 x, .int .i64 y] 23)) hb4; replace B1 := Lib.hid (blk_step (blk_alloc B1.out) hb4); obtain ⟨c0, c1, z0, z1, k0⟩ := rb_open B1.out; have c2 := blk_cell (v := .int .i64 x) (o := 0) X0 rfl; have c3 := blk_cell (v := .int .i64 y) (o := 1) X0 rfl))
                refine ⟨⟨k + 1, by omega, by push_cast; rfl, fun j hj => ?_, by first | exact B1.out | exact blk_alloc B1.out, (by repeat' (first | exact Below.refl _ _ | assumption | apply bDrewN | apply bDrew | apply bAlloc | (refine bSet ?_ ?_ _) | (refine bStep ?_ (by assumption)) | omega | (simp <;> omega)))⟩, by simp [intOf]; omega⟩
                rcases Nat.lt_or_ge j k with h | h
                · exact HH.out j h
                · obtain rfl : j = k := by omega
                  exact HX.out
              | true =>
                rw [hk9] at CV hht2
                have HP := Lib.hid (hsome (by rw [hht2]; rfl))
                clear hht hht2 hsome hna hnb ea eb hx hy hk9
                go_wp2_with (first
                | (go_at_call 24; (with_reducible refine (CA.out _).mono ?_); rintro e w2 ⟨rfl, hb2⟩; replace B1 := Lib.hid (blk_step B1.out hb2); obtain ⟨c0, c1, z0, z1, k0⟩ := rb_open B1.out)
                | (go_at_call 24; (with_reducible refine (CB.out _).mono ?_); rintro e w3 ⟨rfl, hb3⟩; replace B1 := Lib.hid (blk_step B1.out hb3); obtain ⟨c0, c1, z0, z1, k0⟩ := rb_open B1.out)
                | (go_at_call 20; refine (CV.out _).mono ?_; rintro e w4 ⟨rfl, hb4⟩; have X0 := blk_step (blk_new w3 (.cells #[.int .i64 x, .int .i64 y] 23)) hb4; replace B1 := Lib.hid (blk_step (blk_alloc B1.out) hb4); obtain ⟨c0, c1, z0, z1, k0⟩ := rb_open B1.out; have c2 := blk_cell (v := .int .i64 x) (o := 0) X0 rfl; have c3 := blk_cell (v := .int .i64 y) (o := 1) X0 rfl))
                exact bodyPost_ret (v := .tuple #[.agg #[.int .i64 x, .int .i64 y], .int .i64 0]) (by simp only [results, Tryd.results9]; go_simp) rfl ⟨val3 HR.out HP.out, (by repeat' (first | exact Below.refl _ _ | assumption | apply bDrewN | apply bDrew | apply bAlloc | (refine bSet ?_ ?_ _) | (refine bStep ?_ (by assumption)) | omega | (simp <;> omega)))⟩
        · have d1 : ((s[k + 1].toNat : Int) != 46) = true := ne46 h1
          have hh : hit s.data.toList k = false := by unfold hit; rw [ho, decide_eq_false h1]; simp
          have HX := Lib.hid hh
          clear ho h0 h1 hh
          go_wp2_with fail
          all_goals
            refine ⟨⟨k + 1, by omega, by push_cast; rfl, fun j hj => ?_, HB, kB⟩, by simp [intOf]; omega⟩
            rcases Nat.lt_or_ge j k with h | h
            · exact HH.out j h
            · obtain rfl : j = k := by omega
              exact HX.out
      · have d0 : ((s[k].toNat : Int) != 46) = true := ne46 h0
        have hh : hit s.data.toList k = false := by unfold hit; rw [ho, decide_eq_false h0]; simp
        have HX := Lib.hid hh
        clear ho h0 hh
        go_wp2_with fail
        all_goals
            refine ⟨⟨k + 1, by omega, by push_cast; rfl, fun j hj => ?_, HB, kB⟩, by simp [intOf]; omega⟩
            rcases Nat.lt_or_ge j k with h | h
            · exact HH.out j h
            · obtain rfl : j = k := by omega
              exact HX.out
    · have hk3 : ¬ (k : Int) + 1 < s.size := by omega
      have hp := parR_none (no_hit (l := s.data.toList) fun j hj => HH.out j (by omega))
      have HP := Lib.hid hp
      clear hp HH
      go_wp2_with fail
      exact bodyPost_ret (v := .tuple #[.agg #[.int .i64 0, .int .i64 0], .int .i64 8]) (by simp only [results, Tryd.results9]; go_simp) rfl ⟨val3 HR.out HP.out, (by repeat' (first | exact Below.refl _ _ | assumption | apply bDrewN | apply bDrew | apply bAlloc | (refine bSet ?_ ?_ _) | (refine bStep ?_ (by assumption)) | omega | (simp <;> omega)))⟩
end Go.Proofs.YtolnbblikfpnbaaDoor
