/-
  Parse of package quantity.
-/
import Derived.Test.YtolnbblikfpnbaaDoorQd
set_option linter.unusedSimpArgs false
set_option linter.unusedVariables false
namespace Go.Proofs.YtolnbblikfpnbaaDoor
open Sx Go.RowKit
theorem rb_open {b : Nat} {W : World} {T : TypeId} (h : W.heap[b]? = some (.cells #[.int .i64 0, .int .i64 0] T)) : W.cell? ⟨b, 0, none⟩ = some (.int .i64 0) ∧ W.cell? ⟨b, 1, none⟩ = some (.int .i64 0) ∧ W.frozen? ⟨b, 0, none⟩ = false ∧ W.frozen? ⟨b, 1, none⟩ = false ∧ b < W.heap.size :=
  ⟨blk_cell h rfl, blk_cell h rfl, blk_free h, blk_free h, blk_lt h⟩
set_option maxHeartbeats 2000000 in
set_option maxRecDepth 20000 in
theorem Parse_any (s : ByteArray) (w : World) (hs : s.size ≤ 1000000) (hG : Glob0 w) : Calls Tryd.prog 8 #[.string s] w fun e w' => e = .returned (.tuple #[.agg #[.int .i64 (parR s.data.toList).1.1, .int .i64 (parR s.data.toList).1.2], .int .i64 (parR s.data.toList).2]) ∧ Below w.heap.size w w' := by
  have HG := Lib.hid hG
  have CC := Lib.hid (fun W hG => cut2_any s W hs hG)
  have hza : (Lib.cut s.data.toList [46, 46]).1.length ≤ 1000000 ∧ (Lib.cut s.data.toList [46, 46]).2.1.length ≤ 1000000 := by
    have hl : s.data.toList.length = s.size := (Lib.size_eq s).symm
    unfold Lib.cut
    split
    · simp only [List.length_take, List.length_drop]; omega
    · simp; omega
  rcases hcut : Lib.cut s.data.toList [46, 46] with ⟨a, b, f⟩
  have hP := par_cut hcut
  rw [hcut] at CC hza
  dsimp only at hza
  have CC2 : Hid (∀ W, Glob0 W → Calls Tryd.prog 22 #[.string s, .string ⟨#[46, 46]⟩] W fun e w' => e = .returned (.tuple #[.string ⟨a.toArray⟩, .string ⟨b.toArray⟩, .bool f]) ∧ Below W.heap.size W w') := CC
  unfold parR
  have CA := Lib.hid (fun W hG => read_any ⟨a.toArray⟩ W (by rw [Lib.size_eq]; exact hza.1) hG)
  have CB := Lib.hid (fun W hG => read_any ⟨b.toArray⟩ W (by rw [Lib.size_eq]; exact hza.2) hG)
  generalize hR : parS s.data.toList = R at *
  clear hG hs hza hcut hR CC
  cases f with
  | false =>
    rw [if_neg (by decide)] at hP
    subst hP
    dsimp only
    have B0 := Lib.hid (blk_new w (.cells #[.int .i64 0, .int .i64 0] 23))
    go_enter Tryd.func8, Tryd.ntmps8
    go_wp2_with (first
      | (go_at_call 22; refine (CC2.out _ (gstep HG.out (by repeat' (first | exact Below.refl _ _ | assumption | apply bDrewN | apply bDrew | apply bAlloc | (refine bSet ?_ ?_ _) | (refine bStep ?_ (by assumption)) | omega | (simp <;> omega))))).mono ?_; rintro e w1 ⟨rfl, hb1⟩; replace B0 := Lib.hid (blk_step B0.out hb1); obtain ⟨c0, c1, z0, z1, k0⟩ := rb_open B0.out)
      | (go_at_call 23; (with_reducible refine (CA.out _ (gstep HG.out (by repeat' (first | exact Below.refl _ _ | assumption | apply bDrewN | apply bDrew | apply bAlloc | (refine bSet ?_ ?_ _) | (refine bStep ?_ (by assumption)) | omega | (simp <;> omega))))).mono ?_); rintro e w2 ⟨⟨v1, b1, rfl, -⟩, hb2⟩; replace B0 := Lib.hid (blk_step B0.out hb2); obtain ⟨c0, c1, z0, z1, k0⟩ := rb_open B0.out)
      | (go_at_call 23; (with_reducible refine (CB.out _ (gstep HG.out (by repeat' (first | exact Below.refl _ _ | assumption | apply bDrewN | apply bDrew | apply bAlloc | (refine bSet ?_ ?_ _) | (refine bStep ?_ (by assumption)) | omega | (simp <;> omega))))).mono ?_); rintro e w3 ⟨⟨v2, b2, rfl, -⟩, hb3⟩; replace B0 := Lib.hid (blk_step B0.out hb3); obtain ⟨c0, c1, z0, z1, k0⟩ := rb_open B0.out))
    exact bodyPost_ret (v := .tuple #[.agg #[.int .i64 0, .int .i64 0], .int .i64 8]) (by simp only [results, Tryd.results8]; go_simp) rfl ⟨rfl, (by repeat' (first | exact Below.refl _ _ | assumption | apply bDrewN | apply bDrew | apply bAlloc | (refine bSet ?_ ?_ _) | (refine bStep ?_ (by assumption)) | omega | (simp <;> omega)))⟩
  | true =>
    rw [if_pos rfl] at hP
    have HA : Hid (∀ v b, RdIs ⟨a.toArray⟩ v b → (rd a = some v ∧ b = true) ∨ (rd a = none ∧ b = false)) := fun v b h => h
    have HB : Hid (∀ v b1, RdIs ⟨b.toArray⟩ v b1 → (rd b = some v ∧ b1 = true) ∨ (rd b = none ∧ b1 = false)) := fun v b h => h
    cases ha : rd a with
    | none =>
      have DA : Hid (∀ W, Glob0 W → Calls Tryd.prog 23 #[.string ⟨a.toArray⟩] W fun e w' => (∃ v, e = .returned (.tuple #[.int .i64 v, .bool false])) ∧ Below W.heap.size W w') := (fun W hG => (CA.out W hG).mono fun e w' h => by
        obtain ⟨⟨v, b0, rfl, hr⟩, hbb⟩ := h
        rcases HA.out _ _ hr with ⟨h1, rfl⟩ | ⟨h1, rfl⟩
        · rw [ha] at h1; cases h1
        · exact ⟨⟨v, rfl⟩, hbb⟩)
      rw [ha] at hP
      dsimp only at hP
      subst hP
      dsimp only
      clear CA HA HB ha
      have CA := DA
      clear DA
      have B0 := Lib.hid (blk_new w (.cells #[.int .i64 0, .int .i64 0] 23))
      go_enter Tryd.func8, Tryd.ntmps8
      go_wp2_with (first
        | (go_at_call 22; refine (CC2.out _ (gstep HG.out (by repeat' (first | exact Below.refl _ _ | assumption | apply bDrewN | apply bDrew | apply bAlloc | (refine bSet ?_ ?_ _) | (refine bStep ?_ (by assumption)) | omega | (simp <;> omega))))).mono ?_; rintro e w1 ⟨rfl, hb1⟩; replace B0 := Lib.hid (blk_step B0.out hb1); obtain ⟨c0, c1, z0, z1, k0⟩ := rb_open B0.out)
        | (go_at_call 23; (with_reducible refine (CA.out _ (gstep HG.out (by repeat' (first | exact Below.refl _ _ | assumption | apply bDrewN | apply bDrew | apply bAlloc | (refine bSet ?_ ?_ _) | (refine bStep ?_ (by assumption)) | omega | (simp <;> omega))))).mono ?_); rintro e w2 ⟨⟨v1, rfl⟩, hb2⟩; replace B0 := Lib.hid (blk_step B0.out hb2); obtain ⟨c0, c1, z0, z1, k0⟩ := rb_open B0.out)
        | (go_at_call 23; (with_reducible refine (CB.out _ (gstep HG.out (by repeat' (first | exact Below.refl _ _ | assumption | apply bDrewN | apply bDrew | apply bAlloc | (refine bSet ?_ ?_ _) | (refine bStep ?_ (by assumption)) | omega | (simp <;> omega))))).mono ?_); rintro e w3 ⟨⟨v2, b2, rfl, -⟩, hb3⟩; replace B0 := Lib.hid (blk_step B0.out hb3); obtain ⟨c0, c1, z0, z1, k0⟩ := rb_open B0.out))
      exact bodyPost_ret (v := .tuple #[.agg #[.int .i64 0, .int .i64 0], .int .i64 8]) (by simp only [results, Tryd.results8]; go_simp) rfl ⟨rfl, (by repeat' (first | exact Below.refl _ _ | assumption | apply bDrewN | apply bDrew | apply bAlloc | (refine bSet ?_ ?_ _) | (refine bStep ?_ (by assumption)) | omega | (simp <;> omega)))⟩
    | some x =>
      have DA : Hid (∀ W, Glob0 W → Calls Tryd.prog 23 #[.string ⟨a.toArray⟩] W fun e w' => e = .returned (.tuple #[.int .i64 x, .bool true]) ∧ Below W.heap.size W w') := (fun W hG => (CA.out W hG).mono fun e w' h => by
        obtain ⟨⟨v, b0, rfl, hr⟩, hbb⟩ := h
        rcases HA.out _ _ hr with ⟨h1, rfl⟩ | ⟨h1, rfl⟩
        · rw [ha] at h1; obtain rfl := Option.some.inj h1; exact ⟨rfl, hbb⟩
        · rw [ha] at h1; cases h1)
      clear CA
      have CA := DA
      clear DA
      cases hb : rd b with
      | none =>
        have DB : Hid (∀ W, Glob0 W → Calls Tryd.prog 23 #[.string ⟨b.toArray⟩] W fun e w' => (∃ v, e = .returned (.tuple #[.int .i64 v, .bool false])) ∧ Below W.heap.size W w') := (fun W hG => (CB.out W hG).mono fun e w' h => by
          obtain ⟨⟨v, b0, rfl, hr⟩, hbb⟩ := h
          rcases HB.out _ _ hr with ⟨h1, rfl⟩ | ⟨h1, rfl⟩
          · rw [hb] at h1; cases h1
          · exact ⟨⟨v, rfl⟩, hbb⟩)
        rw [ha, hb] at hP
        dsimp only at hP
        subst hP
        dsimp only
        clear CB HA HB ha hb
        have CB := DB
        clear DB
        have B0 := Lib.hid (blk_new w (.cells #[.int .i64 0, .int .i64 0] 23))
        go_enter Tryd.func8, Tryd.ntmps8
        go_wp2_with (first
          | (go_at_call 22; refine (CC2.out _ (gstep HG.out (by repeat' (first | exact Below.refl _ _ | assumption | apply bDrewN | apply bDrew | apply bAlloc | (refine bSet ?_ ?_ _) | (refine bStep ?_ (by assumption)) | omega | (simp <;> omega))))).mono ?_; rintro e w1 ⟨rfl, hb1⟩; replace B0 := Lib.hid (blk_step B0.out hb1); obtain ⟨c0, c1, z0, z1, k0⟩ := rb_open B0.out)
          | (go_at_call 23; (with_reducible refine (CA.out _ (gstep HG.out (by repeat' (first | exact Below.refl _ _ | assumption | apply bDrewN | apply bDrew | apply bAlloc | (refine bSet ?_ ?_ _) | (refine bStep ?_ (by assumption)) | omega | (simp <;> omega))))).mono ?_); rintro e w2 ⟨rfl, hb2⟩; replace B0 := Lib.hid (blk_step B0.out hb2); obtain ⟨c0, c1, z0, z1, k0⟩ := rb_open B0.out)
          | (go_at_call 23; (with_reducible refine (CB.out _ (gstep HG.out (by repeat' (first | exact Below.refl _ _ | assumption | apply bDrewN | apply bDrew | apply bAlloc | (refine bSet ?_ ?_ _) | (refine bStep ?_ (by assumption)) | omega | (simp <;> omega))))).mono ?_); rintro e w3 ⟨⟨v2, rfl⟩, hb3⟩; replace B0 := Lib.hid (blk_step B0.out hb3); obtain ⟨c0, c1, z0, z1, k0⟩ := rb_open B0.out))
        exact bodyPost_ret (v := .tuple #[.agg #[.int .i64 0, .int .i64 0], .int .i64 8]) (by simp only [results, Tryd.results8]; go_simp) rfl ⟨rfl, (by repeat' (first | exact Below.refl _ _ | assumption | apply bDrewN | apply bDrew | apply bAlloc | (refine bSet ?_ ?_ _) | (refine bStep ?_ (by assumption)) | omega | (simp <;> omega)))⟩
      | some y =>
        have DB : Hid (∀ W, Glob0 W → Calls Tryd.prog 23 #[.string ⟨b.toArray⟩] W fun e w' => e = .returned (.tuple #[.int .i64 y, .bool true]) ∧ Below W.heap.size W w') := (fun W hG => (CB.out W hG).mono fun e w' h => by
          obtain ⟨⟨v, b0, rfl, hr⟩, hbb⟩ := h
          rcases HB.out _ _ hr with ⟨h1, rfl⟩ | ⟨h1, rfl⟩
          · rw [hb] at h1; obtain rfl := Option.some.inj h1; exact ⟨rfl, hbb⟩
          · rw [hb] at h1; cases h1)
        clear CB
        have CB := DB
        clear DB
        rw [ha, hb] at hP
        dsimp only at hP
        cases hk : okS (x, y)
        · rw [if_neg (fun h => by rw [okS_P.2 (show okP (x, y) from h)] at hk; cases hk)] at hP
          subst hP
          dsimp only
          clear HA HB ha hb
          have B0 := Lib.hid (blk_new w (.cells #[.int .i64 0, .int .i64 0] 23))
          go_enter Tryd.func8, Tryd.ntmps8
          go_wp2_with (first
            | (go_at_call 22; refine (CC2.out _ (gstep HG.out (by repeat' (first | exact Below.refl _ _ | assumption | apply bDrewN | apply bDrew | apply bAlloc | (refine bSet ?_ ?_ _) | (refine bStep ?_ (by assumption)) | omega | (simp <;> omega))))).mono ?_; rintro e w1 ⟨rfl, hb1⟩; replace B0 := Lib.hid (blk_step B0.out hb1); obtain ⟨c0, c1, z0, z1, k0⟩ := rb_open B0.out)
            | (go_at_call 23; (with_reducible refine (CA.out _ (gstep HG.out (by repeat' (first | exact Below.refl _ _ | assumption | apply bDrewN | apply bDrew | apply bAlloc | (refine bSet ?_ ?_ _) | (refine bStep ?_ (by assumption)) | omega | (simp <;> omega))))).mono ?_); rintro e w2 ⟨rfl, hb2⟩; replace B0 := Lib.hid (blk_step B0.out hb2); obtain ⟨c0, c1, z0, z1, k0⟩ := rb_open B0.out)
            | (go_at_call 23; (with_reducible refine (CB.out _ (gstep HG.out (by repeat' (first | exact Below.refl _ _ | assumption | apply bDrewN | apply bDrew | apply bAlloc | (refine bSet ?_ ?_ _) | (refine bStep ?_ (by assumption)) | omega | (simp <;> omega))))).mono ?_); rintro e w3 ⟨rfl, hb3⟩; replace B0 := Lib.hid (blk_step B0.out hb3); obtain ⟨c0, c1, z0, z1, k0⟩ := rb_open B0.out)
            | (go_at_call 18; refine (valid_oneN _ _ _ _ _ _ _ (by simp)).mono ?_; rintro e w4 ⟨rfl, hb4⟩; have X0 := blk_step (blk_alloc (blk_new w3 (.cells #[.int .i64 x, .int .i64 y] 23))) hb4; replace B0 := Lib.hid (blk_step (blk_alloc (blk_alloc B0.out)) hb4); obtain ⟨c0, c1, z0, z1, k0⟩ := rb_open B0.out; have c2 := blk_cell (v := .int .i64 x) (o := 0) X0 rfl; have c3 := blk_cell (v := .int .i64 y) (o := 1) X0 rfl))
          exact bodyPost_ret (v := .tuple #[.agg #[.int .i64 0, .int .i64 0], .int .i64 8]) (by simp only [results, Tryd.results8]; go_simp) rfl ⟨rfl, (by repeat' (first | exact Below.refl _ _ | assumption | apply bDrewN | apply bDrew | apply bAlloc | (refine bSet ?_ ?_ _) | (refine bStep ?_ (by assumption)) | omega | (simp <;> omega)))⟩
        · rw [if_pos (show -1099511627776 ≤ x ∧ x ≤ y ∧ y ≤ 1099511627776 from okS_P.1 hk)] at hP
          subst hP
          dsimp only
          clear HA HB ha hb
          have B0 := Lib.hid (blk_new w (.cells #[.int .i64 0, .int .i64 0] 23))
          go_enter Tryd.func8, Tryd.ntmps8
          go_wp2_with (first
            | (go_at_call 22; refine (CC2.out _ (gstep HG.out (by repeat' (first | exact Below.refl _ _ | assumption | apply bDrewN | apply bDrew | apply bAlloc | (refine bSet ?_ ?_ _) | (refine bStep ?_ (by assumption)) | omega | (simp <;> omega))))).mono ?_; rintro e w1 ⟨rfl, hb1⟩; replace B0 := Lib.hid (blk_step B0.out hb1); obtain ⟨c0, c1, z0, z1, k0⟩ := rb_open B0.out)
            | (go_at_call 23; (with_reducible refine (CA.out _ (gstep HG.out (by repeat' (first | exact Below.refl _ _ | assumption | apply bDrewN | apply bDrew | apply bAlloc | (refine bSet ?_ ?_ _) | (refine bStep ?_ (by assumption)) | omega | (simp <;> omega))))).mono ?_); rintro e w2 ⟨rfl, hb2⟩; replace B0 := Lib.hid (blk_step B0.out hb2); obtain ⟨c0, c1, z0, z1, k0⟩ := rb_open B0.out)
            | (go_at_call 23; (with_reducible refine (CB.out _ (gstep HG.out (by repeat' (first | exact Below.refl _ _ | assumption | apply bDrewN | apply bDrew | apply bAlloc | (refine bSet ?_ ?_ _) | (refine bStep ?_ (by assumption)) | omega | (simp <;> omega))))).mono ?_); rintro e w3 ⟨rfl, hb3⟩; replace B0 := Lib.hid (blk_step B0.out hb3); obtain ⟨c0, c1, z0, z1, k0⟩ := rb_open B0.out)
            | (go_at_call 18; refine (valid_oneN _ _ _ _ _ _ _ (by simp)).mono ?_; rintro e w4 ⟨rfl, hb4⟩; have X0 := blk_step (blk_alloc (blk_new w3 (.cells #[.int .i64 x, .int .i64 y] 23))) hb4; replace B0 := Lib.hid (blk_step (blk_alloc (blk_alloc B0.out)) hb4); obtain ⟨c0, c1, z0, z1, k0⟩ := rb_open B0.out; have c2 := blk_cell (v := .int .i64 x) (o := 0) X0 rfl; have c3 := blk_cell (v := .int .i64 y) (o := 1) X0 rfl))
          exact bodyPost_ret (v := .tuple #[.agg #[.int .i64 x, .int .i64 y], .int .i64 0]) (by simp only [results, Tryd.results8]; go_simp) rfl ⟨rfl, (by repeat' (first | exact Below.refl _ _ | assumption | apply bDrewN | apply bDrew | apply bAlloc | (refine bSet ?_ ?_ _) | (refine bStep ?_ (by assumption)) | omega | (simp <;> omega)))⟩
end Go.Proofs.YtolnbblikfpnbaaDoor
