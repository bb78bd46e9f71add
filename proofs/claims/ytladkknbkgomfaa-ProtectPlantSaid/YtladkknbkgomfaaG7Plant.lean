/-
  Plants: the reference's NewPlant, Copy.
-/
import Derived.Test.YtladkknbkgomfaaG6Plant
import Derived.OwnWalk
set_option linter.unusedSimpArgs false
set_option linter.unusedVariables false
namespace Go.Proofs.Ytladkknbkgomfaa
open Go.RowKit Mr
theorem infoBrk : (Try.prog.info? 79).map (fun i => (i.zero, i.size, i.bytes)) = some (some (.agg #[.int .i64 0, .int .i64 0, .bool false]), 3, 24) := by kernel_rfl
theorem infoAct : (Try.prog.info? 41).map (fun i => (i.zero, i.size, i.bytes)) = some (some (.agg #[.bool false, .bool false, .bool false, .bool false]), 4, 4) := by kernel_rfl
theorem own_new0 {W : World} {B sz : Nat} {E : TypeId} (hB : B ≤ W.heap.size) : (W.alloc (.cells #[] E)).ownsRow B E sz (.slice (some ⟨W.heap.size, 0, none⟩) 0 0) 0 [] :=
  ⟨by simp, Or.inr ⟨_, _, _, rfl, hB, blk_new W _, Nat.le_refl _, by decide, by simp, by simp⟩⟩
theorem flatB_one (l : List Brk) : ∀ u ∈ flatB l, u.oneCell' = true := by
  induction l with
  | nil => intro u hu; cases hu
  | cons b l ih =>
    intro u hu
    simp only [flatB, List.mem_cons] at hu
    rcases hu with rfl | rfl | rfl | hu
    · rfl
    · rfl
    · rfl
    · exact ih u hu
theorem flatA_one (l : List ActM) : ∀ u ∈ flatA l, u.oneCell' = true := by
  induction l with
  | nil => intro u hu; cases hu
  | cons b l ih =>
    intro u hu
    simp only [flatA, List.mem_cons] at hu
    rcases hu with rfl | rfl | rfl | rfl | hu
    · rfl
    · rfl
    · rfl
    · rfl
    · exact ih u hu
theorem BkAt.src {a : Option Addr} {l : List Brk} {W : World} (h : BkAt a l W) : l.length * 3 ≠ 0 → ∃ p off, a = some ⟨p, off, none⟩ ∧ ∀ j u, (flatB l)[j]? = some u → W.cell? ⟨p, off + j, none⟩ = some u := fun hn => by
  obtain ⟨b, off, e, -, h2⟩ := h (by rintro rfl; exact hn rfl)
  refine ⟨b, off, e, fun j u hj => ?_⟩
  have hjl := (List.getElem?_eq_some_iff.1 hj).1
  rw [flatB_len] at hjl
  have hk : j / 3 < l.length := by omega
  obtain ⟨x, hx⟩ : ∃ x, l[j / 3]? = some x := ⟨l[j / 3], List.getElem?_eq_getElem hk⟩
  obtain ⟨g1, g2, g3⟩ := flatB_at hx
  obtain ⟨q1, q2, q3⟩ := h2 _ _ hx
  have h3 : j = j / 3 * 3 ∨ j = j / 3 * 3 + 1 ∨ j = j / 3 * 3 + 2 := by omega
  rcases h3 with e3 | e3 | e3
  · rw [e3] at hj ⊢; rw [hj] at g1; rw [Option.some.inj g1]; exact q1
  · rw [e3] at hj ⊢; rw [hj] at g2; rw [Option.some.inj g2]; exact q2
  · rw [e3] at hj ⊢; rw [hj] at g3; rw [Option.some.inj g3]; exact q3
theorem row_sl {W : World} {B E sz n : Nat} {v : Value} {xs : List Value} (h : W.ownsRow B E sz v n xs) : ∃ a c, v = .slice a n c := by
  obtain ⟨-, h2⟩ := h
  rcases h2 with ⟨e, h3⟩ | ⟨g, cap, cur, q1, -⟩
  · exact ⟨none, 0, by rw [e, h3]⟩
  · exact ⟨_, _, q1⟩
theorem BkX.of_own {Z : Nat → Prop} {W : World} {B c : Nat} {a : Option Addr} {l : List Brk} (h : W.ownsRow B 79 3 (.slice a l.length c) l.length (flatB l)) (hZ : ∀ b, B ≤ b → a = some ⟨b, 0, none⟩ → ¬ Z b) : BkX Z W.heap.size a l W := fun hn => by
  have hl : l.length ≠ 0 := fun e => hn (List.length_eq_zero_iff.1 e)
  obtain ⟨-, h2⟩ := h
  rcases h2 with ⟨-, h3⟩ | ⟨g, cap, cur, q1, q2, q3, q4, q5, q6, q7⟩
  · exact absurd h3 hl
  · cases q1
    refine ⟨g, rfl, hZ g q2 rfl, blk_lt q3, blk_lt q3, fun j u hj => blk_cell q3 ?_⟩
    rw [← q7] at hj
    have hlt : j < (flatB l).length := by rw [← q7]; exact (List.getElem?_eq_some_iff.1 hj).1
    rw [flatB_len] at hlt
    rw [List.getElem?_take_of_lt (by omega)] at hj
    simpa using hj
/-- What the reference's NewPlant hands back. -/
def RNewR (lag : Nat) (l : List Brk) (w : World) (e : Ending) (w' : World) : Prop := (l.all okBrk = false ∧ e = .returned (.tuple #[.pointer none, .int .i64 2]) ∧ Below w.heap.size w w') ∨ (l.all okBrk = true ∧ ∃ Q aL cL, e = .returned (.tuple #[.pointer (some ⟨Q, 0, none⟩), .int .i64 0]) ∧ RpAt w.heap.size Q l [] lag f3 false aL cL (.slice none 0 0) w' ∧ Below w.heap.size w w' ∧ ∀ b, aL = some ⟨b, 0, none⟩ → w.heap.size ≤ b)
theorem inB_true {x lo hi : Int} (h : inB x lo hi = true) : lo ≤ x ∧ x ≤ hi := by unfold inB at h; simpa using h
theorem inB_false {x lo hi : Int} (h : inB x lo hi = false) : ¬ (lo ≤ x ∧ x ≤ hi) := by
  unfold inB at h
  rintro ⟨h1, h2⟩
  rw [decide_eq_true h1, decide_eq_true h2] at h
  cases h
theorem RNew_bad (lag : Int) (v : Value) (w : World) (h : ¬ (0 ≤ lag ∧ lag ≤ 20)) : Calls Try.prog 6 #[.int .i64 lag, v] w fun e w' => e = .returned (.tuple #[.pointer none, .int .i64 3]) ∧ Below w.heap.size w w' := by
  have CI := Lib.hid (fun W => Rin_any lag 0 20 W)
  have e1 : inB lag 0 20 = false := by
    cases hc : inB lag 0 20 with
    | false => rfl
    | true => exact absurd (inB_true hc) h
  rw [e1] at CI
  clear h e1
  go_enter Try.func6, Try.ntmps6
  go_wp2_with (go_at_call 22; with_reducible refine (CI.out _).mono ?_; rintro e w9 ⟨rfl, hw⟩; have hw2 := hw.symm; clear hw; subst hw2)
  exact bodyPost_ret (v := .tuple #[.pointer none, .int .i64 3]) (by simp only [results, Try.results6]; go_simp) rfl ⟨rfl, (by repeat' (first | exact Below.refl _ _ | assumption | apply bDrewN | apply bDrew | apply bAlloc | (refine bSet ?_ ?_ _) | (refine bStep ?_ (by assumption)) | omega | (simp <;> omega)))⟩
theorem RNew_many (lag : Nat) (n c : Nat) (a : Option Addr) (w : World) (hl : lag ≤ 20) (hn : 16 < n) : Calls Try.prog 6 #[.int .i64 (lag : Int), .slice a n c] w fun e w' => e = .returned (.tuple #[.pointer none, .int .i64 6]) ∧ Below w.heap.size w w' := by
  have CI := Lib.hid (fun W => Rin_any lag 0 20 W)
  have e1 : inB (lag : Int) 0 20 = true := by unfold inB; rw [decide_eq_true (by omega), decide_eq_true (by omega)]; rfl
  rw [e1] at CI
  have h3 : (n : Int) > 16 := by omega
  clear hl hn e1
  go_enter Try.func6, Try.ntmps6
  go_wp2_with (go_at_call 22; with_reducible refine (CI.out _).mono ?_; rintro e w9 ⟨rfl, hw⟩; have hw2 := hw.symm; clear hw; subst hw2)
  exact bodyPost_ret (v := .tuple #[.pointer none, .int .i64 6]) (by simp only [results, Try.results6]; go_simp) rfl ⟨rfl, (by repeat' (first | exact Below.refl _ _ | assumption | apply bDrewN | apply bDrew | apply bAlloc | (refine bSet ?_ ?_ _) | (refine bStep ?_ (by assumption)) | omega | (simp <;> omega)))⟩
set_option maxHeartbeats 4000000 in
set_option maxRecDepth 20000 in
theorem RNew_loop (lag : Nat) (l : List Brk) (c : Nat) (a : Option Addr) (w : World) (hl : lag ≤ 20) (hn : l.length ≤ 16) (hA : BkAt a l w) : Calls Try.prog 6 #[.int .i64 (lag : Int), .slice a l.length c] w (RNewR lag l w) := by
  have CI := Lib.hid (fun W => Rin_any lag 0 20 W)
  have e1 : inB (lag : Int) 0 20 = true := by unfold inB; rw [decide_eq_true (by omega), decide_eq_true (by omega)]; rfl
  rw [e1] at CI
  have h3 : ¬ (l.length : Int) > 16 := by omega
  have HA := Lib.hid hA
  have HN := Lib.hid hn
  obtain ⟨j0, hj0, hy0, hy1, hy2⟩ := info_parts infoBrk
  clear hl hn hA e1
  go_enter Try.func6, Try.ntmps6
  go_wp2_with (go_at_call 22; with_reducible refine (CI.out _).mono ?_; rintro e w9 ⟨rfl, hw⟩; have hw2 := hw.symm; clear hw; subst hw2)
  clear CI
  go_loopw [6] (fun ix wr => ∃ i : Nat, i ≤ l.length ∧ ix = .int .i64 i ∧ Hid (Below w.heap.size w wr) ∧ Hid ((l.take i).all okBrk = true)) (fun ix _ => l.length - (intOf ix).toNat)
  case atStart => exact ⟨0, Nat.zero_le _, rfl, Below.refl _ _, rfl⟩
  case round =>
    obtain ⟨i, hi, rfl, HB, HO⟩ := hrel
    by_cases hc : i < l.length
    · have c1 : (i : Int) < l.length := by omega
      have c0 : (0 : Int) ≤ i := by omega
      obtain ⟨⟨q, A, B⟩, hk⟩ : ∃ x, l[i]? = some x := ⟨l[i], List.getElem?_eq_getElem hc⟩
      have HBAD : Hid (¬ okP q A B → l.all okBrk = false) := fun h => by
        rw [List.all_eq_false]
        exact ⟨(q, A, B), List.mem_of_getElem? hk, fun c => h (okBrk_iff.1 c)⟩
      have HGOOD : Hid (okP q A B → (l.take (i + 1)).all okBrk = true) := fun h => by
        rw [List.take_add_one, hk, List.all_append, HO.out]
        simp [okBrk_iff.2 h]
      obtain ⟨b, off, rfl, hbl, hbc⟩ := (HA.out.step HB.out) (by rintro rfl; simp at hk)
      obtain ⟨y0, y1, y2⟩ := hbc i _ hk
      have ly := cell_lt y0
      have CK := Lib.hid (fun W => Rin_any q 0 6 W)
      have CA := Lib.hid (fun W => Rin_any A 0 2 W)
      clear hk hbc hc HO
      cases hK : inB q 0 6 with
      | false =>
        rw [hK] at CK
        go_wp2_with (first | (go_at_call 22; with_reducible refine (CK.out _).mono ?_; rintro e w9 ⟨rfl, hw⟩; have hw2 := hw.symm; clear hw; subst hw2) | (go_at_call 22; with_reducible refine (CA.out _).mono ?_; rintro e w9 ⟨rfl, hw⟩; have hw2 := hw.symm; clear hw; subst hw2))
        all_goals exact bodyPost_ret (v := .tuple #[.pointer none, .int .i64 2]) (by simp only [results, Try.results6]; go_simp) rfl (Or.inl ⟨HBAD.out (by rintro ⟨o1, o2, o3, o4⟩; first | omega | exact absurd ⟨o1.1, o1.2⟩ (inB_false hK) | exact absurd ⟨o2.1, o2.2⟩ (inB_false hA2) | (have := o4 rfl; omega) | (have := o3 rfl; omega)), rfl, bStep HB.out (by repeat' (first | exact Below.refl _ _ | apply bAlloc))⟩)
      | true =>
        rw [hK] at CK
        cases hA2 : inB A 0 2 with
        | false =>
          rw [hA2] at CA
          go_wp2_with (first | (go_at_call 22; with_reducible refine (CK.out _).mono ?_; rintro e w9 ⟨rfl, hw⟩; have hw2 := hw.symm; clear hw; subst hw2) | (go_at_call 22; with_reducible refine (CA.out _).mono ?_; rintro e w9 ⟨rfl, hw⟩; have hw2 := hw.symm; clear hw; subst hw2))
          all_goals exact bodyPost_ret (v := .tuple #[.pointer none, .int .i64 2]) (by simp only [results, Try.results6]; go_simp) rfl (Or.inl ⟨HBAD.out (by rintro ⟨o1, o2, o3, o4⟩; first | omega | exact absurd ⟨o1.1, o1.2⟩ (inB_false hK) | exact absurd ⟨o2.1, o2.2⟩ (inB_false hA2) | (have := o4 rfl; omega) | (have := o3 rfl; omega)), rfl, bStep HB.out (by repeat' (first | exact Below.refl _ _ | apply bAlloc))⟩)
        | true =>
          rw [hA2] at CA
          by_cases k0 : q = 0
          · subst k0
            by_cases a0 : A = 0
            · subst a0
              cases B with
              | false =>
                go_wp2_with (first | (go_at_call 22; with_reducible refine (CK.out _).mono ?_; rintro e w9 ⟨rfl, hw⟩; have hw2 := hw.symm; clear hw; subst hw2) | (go_at_call 22; with_reducible refine (CA.out _).mono ?_; rintro e w9 ⟨rfl, hw⟩; have hw2 := hw.symm; clear hw; subst hw2))
                all_goals exact ⟨⟨i + 1, by omega, by push_cast; rfl, bStep HB.out (by repeat' (first | exact Below.refl _ _ | apply bAlloc)), HGOOD.out ⟨inB_true hK, inB_true hA2, fun _ => by first | rfl | omega, fun h => by first | exact Or.inl rfl | exact Or.inr rfl | exact absurd h (by decide)⟩⟩, by simp [intOf]; omega⟩
              | true =>
                go_wp2_with (first | (go_at_call 22; with_reducible refine (CK.out _).mono ?_; rintro e w9 ⟨rfl, hw⟩; have hw2 := hw.symm; clear hw; subst hw2) | (go_at_call 22; with_reducible refine (CA.out _).mono ?_; rintro e w9 ⟨rfl, hw⟩; have hw2 := hw.symm; clear hw; subst hw2))
                all_goals exact bodyPost_ret (v := .tuple #[.pointer none, .int .i64 2]) (by simp only [results, Try.results6]; go_simp) rfl (Or.inl ⟨HBAD.out (by rintro ⟨o1, o2, o3, o4⟩; first | omega | exact absurd ⟨o1.1, o1.2⟩ (inB_false hK) | exact absurd ⟨o2.1, o2.2⟩ (inB_false hA2) | (have := o4 rfl; omega) | (have := o3 rfl; omega)), rfl, bStep HB.out (by repeat' (first | exact Below.refl _ _ | apply bAlloc))⟩)
            · cases B with
              | false =>
                go_wp2_with (first | (go_at_call 22; with_reducible refine (CK.out _).mono ?_; rintro e w9 ⟨rfl, hw⟩; have hw2 := hw.symm; clear hw; subst hw2) | (go_at_call 22; with_reducible refine (CA.out _).mono ?_; rintro e w9 ⟨rfl, hw⟩; have hw2 := hw.symm; clear hw; subst hw2))
                all_goals exact bodyPost_ret (v := .tuple #[.pointer none, .int .i64 2]) (by simp only [results, Try.results6]; go_simp) rfl (Or.inl ⟨HBAD.out (by rintro ⟨o1, o2, o3, o4⟩; first | omega | exact absurd ⟨o1.1, o1.2⟩ (inB_false hK) | exact absurd ⟨o2.1, o2.2⟩ (inB_false hA2) | (have := o4 rfl; omega) | (have := o3 rfl; omega)), rfl, bStep HB.out (by repeat' (first | exact Below.refl _ _ | apply bAlloc))⟩)
              | true =>
                go_wp2_with (first | (go_at_call 22; with_reducible refine (CK.out _).mono ?_; rintro e w9 ⟨rfl, hw⟩; have hw2 := hw.symm; clear hw; subst hw2) | (go_at_call 22; with_reducible refine (CA.out _).mono ?_; rintro e w9 ⟨rfl, hw⟩; have hw2 := hw.symm; clear hw; subst hw2))
                all_goals exact bodyPost_ret (v := .tuple #[.pointer none, .int .i64 2]) (by simp only [results, Try.results6]; go_simp) rfl (Or.inl ⟨HBAD.out (by rintro ⟨o1, o2, o3, o4⟩; first | omega | exact absurd ⟨o1.1, o1.2⟩ (inB_false hK) | exact absurd ⟨o2.1, o2.2⟩ (inB_false hA2) | (have := o4 rfl; omega) | (have := o3 rfl; omega)), rfl, bStep HB.out (by repeat' (first | exact Below.refl _ _ | apply bAlloc))⟩)
          · cases B with
            | false =>
              go_wp2_with (first | (go_at_call 22; with_reducible refine (CK.out _).mono ?_; rintro e w9 ⟨rfl, hw⟩; have hw2 := hw.symm; clear hw; subst hw2) | (go_at_call 22; with_reducible refine (CA.out _).mono ?_; rintro e w9 ⟨rfl, hw⟩; have hw2 := hw.symm; clear hw; subst hw2))
              all_goals exact ⟨⟨i + 1, by omega, by push_cast; rfl, bStep HB.out (by repeat' (first | exact Below.refl _ _ | apply bAlloc)), HGOOD.out ⟨inB_true hK, inB_true hA2, fun _ => by first | rfl | omega, fun h => by first | exact Or.inl rfl | exact Or.inr rfl | exact absurd h (by decide)⟩⟩, by simp [intOf]; omega⟩
            | true =>
              by_cases k5 : q = 5
              · subst k5
                go_wp2_with (first | (go_at_call 22; with_reducible refine (CK.out _).mono ?_; rintro e w9 ⟨rfl, hw⟩; have hw2 := hw.symm; clear hw; subst hw2) | (go_at_call 22; with_reducible refine (CA.out _).mono ?_; rintro e w9 ⟨rfl, hw⟩; have hw2 := hw.symm; clear hw; subst hw2))
                all_goals exact ⟨⟨i + 1, by omega, by push_cast; rfl, bStep HB.out (by repeat' (first | exact Below.refl _ _ | apply bAlloc)), HGOOD.out ⟨inB_true hK, inB_true hA2, fun _ => by first | rfl | omega, fun h => by first | exact Or.inl rfl | exact Or.inr rfl | exact absurd h (by decide)⟩⟩, by simp [intOf]; omega⟩
              · by_cases k6 : q = 6
                · subst k6
                  go_wp2_with (first | (go_at_call 22; with_reducible refine (CK.out _).mono ?_; rintro e w9 ⟨rfl, hw⟩; have hw2 := hw.symm; clear hw; subst hw2) | (go_at_call 22; with_reducible refine (CA.out _).mono ?_; rintro e w9 ⟨rfl, hw⟩; have hw2 := hw.symm; clear hw; subst hw2))
                  all_goals exact ⟨⟨i + 1, by omega, by push_cast; rfl, bStep HB.out (by repeat' (first | exact Below.refl _ _ | apply bAlloc)), HGOOD.out ⟨inB_true hK, inB_true hA2, fun _ => by first | rfl | omega, fun h => by first | exact Or.inl rfl | exact Or.inr rfl | exact absurd h (by decide)⟩⟩, by simp [intOf]; omega⟩
                · have n5 : (q != 5) = true := by simpa using k5
                  have n6 : (q != 6) = true := by simpa using k6
                  go_wp2_with (first | (go_at_call 22; with_reducible refine (CK.out _).mono ?_; rintro e w9 ⟨rfl, hw⟩; have hw2 := hw.symm; clear hw; subst hw2) | (go_at_call 22; with_reducible refine (CA.out _).mono ?_; rintro e w9 ⟨rfl, hw⟩; have hw2 := hw.symm; clear hw; subst hw2))
                  all_goals exact bodyPost_ret (v := .tuple #[.pointer none, .int .i64 2]) (by simp only [results, Try.results6]; go_simp) rfl (Or.inl ⟨HBAD.out (by rintro ⟨o1, o2, o3, o4⟩; first | omega | exact absurd ⟨o1.1, o1.2⟩ (inB_false hK) | exact absurd ⟨o2.1, o2.2⟩ (inB_false hA2) | (have := o4 rfl; omega) | (have := o3 rfl; omega)), rfl, bStep HB.out (by repeat' (first | exact Below.refl _ _ | apply bAlloc))⟩)
    · have c1 : ¬ (i : Int) < l.length := by omega
      obtain rfl : i = l.length := by omega
      clear hc
      have ho := HO.out
      rw [List.take_length] at ho
      have HO2 := Lib.hid ho
      clear ho HO
      go_wp2_with (at_builtin; refine wpList_app _ rfl (.tmp 59) (.tmp 60) 22 rfl w.heap.size 79 j0 _ 3 24 Try.underlying22 hj0 hy0 hy1 hy2 rfl (by decide) _ 0 [] rfl (own_new0 HB.out.size) a l.length c (flatB l) rfl (flatB_len _) ((HA.out.step (bStep HB.out bAl)).src) (flatB_one _) (by have := HN.out; unfold maxLen; omega) (by have := HN.out; omega) (by have := HB.out.size; simp; omega) ?_; intro v' w5 hown hgrow hat; have hO2 : Hid (w5.ownsRow w.heap.size 79 3 v' l.length (flatB l)) := (by show World.ownsRow _ _ _ _ _ _ _; rw [Nat.zero_add, List.nil_append] at hown; exact hown); have hB2 : Hid (Below w.heap.size w w5) := (bAlloc HB.out _).grown hgrow (by have := HB.out.size; simp; omega) (fun k hk => (World.ownsRow.lt (own_new0 (E := 79) (sz := 3) HB.out.size) k hk).1); obtain ⟨a5, c5, e5⟩ := row_sl hO2.out; subst e5; clear hown hgrow hat)
      refine bodyPost_ret (v := .tuple #[.pointer (some ⟨w5.heap.size, 0, none⟩), .int .i64 0]) (by simp only [results, Try.results6]; go_simp) rfl (Or.inr ⟨HO2.out, _, a5, c5, rfl, ⟨hB2.out.size, Nat.le_trans hB2.out.size bAl.size, blk_new w5 _, ⟨by simp [flatA], Or.inl ⟨rfl, rfl⟩⟩, (fun e => by cases e), ?_⟩, bAlloc hB2.out _, fun b e => (World.ownsRow.lt hO2.out b (by rw [e]; rfl)).1⟩)
      refine BkX.of_own (own_step hO2.out bAl) fun b hb e => ?_
      rintro (rfl | c)
      · have := (World.ownsRow.lt hO2.out w5.heap.size (by rw [e]; rfl)).2
        omega
      · cases c
end Go.Proofs.Ytladkknbkgomfaa
