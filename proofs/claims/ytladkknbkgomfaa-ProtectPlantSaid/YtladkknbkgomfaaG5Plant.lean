/-
  Plants: the program's NewPlant.
-/
import Derived.Test.YtladkknbkgomfaaG4Plant
set_option linter.unusedSimpArgs false
set_option linter.unusedVariables false
namespace Go.Proofs.Ytladkknbkgomfaa
open Go.RowKit Mr
section
variable {N M P : Nat} {l l' : List Brk} {D : List T3} {lag : Nat} {sh : T3} {fi : Bool} {wp wp' : Nat → Option Nat} {w W : World} {k : Nat}
theorem plF_l (hk : k < 88) (h3 : ∀ q, k = 67 + q → q < 3 → (hasB 3 (q : Int) l).1 = (hasB 3 (q : Int) l').1) (h4 : ∀ q, k = 70 + q → q < 3 → (hasB 4 (q : Int) l).1 = (hasB 4 (q : Int) l').1) (h2 : ∀ q, k = 76 + q → q < 3 → (hasB 2 (q : Int) l).1 = (hasB 2 (q : Int) l').1) (h1 : ∀ q, k = 79 + q → q < 3 → (hasB 1 (q : Int) l).1 = (hasB 1 (q : Int) l').1)
    (hw : ∀ q, k = 82 + q → q < 6 → wp q = wp' q) : plF l D lag sh fi wp k = plF l' D lag sh fi wp' k := by
  unfold plF
  by_cases c0 : k = 0
  · rw [if_pos c0, if_pos c0]
  rw [if_neg c0, if_neg c0]
  by_cases c1 : k = 1
  · rw [if_pos c1, if_pos c1]
  rw [if_neg c1, if_neg c1]
  by_cases c2 : k < 65
  · rw [if_pos c2, if_pos c2]
  rw [if_neg c2, if_neg c2]
  by_cases c3 : k = 65
  · rw [if_pos c3, if_pos c3]
  rw [if_neg c3, if_neg c3]
  by_cases c4 : k = 66
  · rw [if_pos c4, if_pos c4]
  rw [if_neg c4, if_neg c4]
  by_cases c5 : k < 70
  · rw [if_pos c5, if_pos c5, h3 (k - 67) (by omega) (by omega)]
  rw [if_neg c5, if_neg c5]
  by_cases c6 : k < 73
  · rw [if_pos c6, if_pos c6, h4 (k - 70) (by omega) (by omega)]
  rw [if_neg c6, if_neg c6]
  by_cases c7 : k < 76
  · rw [if_pos c7, if_pos c7]
  rw [if_neg c7, if_neg c7]
  by_cases c8 : k < 79
  · rw [if_pos c8, if_pos c8, h2 (k - 76) (by omega) (by omega)]
  rw [if_neg c8, if_neg c8]
  by_cases c9 : k < 82
  · rw [if_pos c9, if_pos c9, h1 (k - 79) (by omega) (by omega)]
  rw [if_neg c9, if_neg c9, hw (k - 82) (by omega) (by omega)]
theorem has_other {q a : Int} {b : Brk} (h : ¬ (b.1 = q ∧ b.2.1 = a)) : hasB q a (l ++ [b]) = hasB q a l := by
  rw [hasB_snoc]; unfold hasS; rw [if_neg h]
theorem has_this {q a : Int} {b : Brk} (h : b.1 = q ∧ b.2.1 = a) : hasB q a (l ++ [b]) = (true, b.2.2) := by
  rw [hasB_snoc]; unfold hasS; rw [if_pos h]
theorem WireOk.congr {r r' : Bool × Bool} {o : Option Nat} (h : WireOk N M P r W o) (e : r' = r) : WireOk N M P r' W o := by rw [e]; exact h
/-- Where a fault of one of the first kinds is kept. -/
def offK (k : Int) : Nat := if k = 1 then 79 else if k = 2 then 76 else if k = 3 then 67 else 70
theorem PlAt.put14 {b : Brk} {j : Nat} (h : PlAt N M P l D lag sh fi wp W) (hb : b.1 = 1 ∨ b.1 = 2 ∨ b.1 = 3 ∨ b.1 = 4) (hj : b.2.1 = (j : Int)) (hj3 : j < 3) : PlAt N M P (l ++ [b]) D lag sh fi wp (W.setCell ⟨P, offK b.1 + j, none⟩ (.bool true)) := by
  obtain ⟨q, a, B⟩ := b
  dsimp only at hb hj
  subst hj
  refine ⟨⟨h.hP.1, h.hP.2.1, by simpa using h.hP.2.2⟩, fb_ext (fb_set h.fb) fun k hk => ?_, fun i hi => ?_⟩
  · by_cases c : k = offK q + j
    · subst c
      rw [updF_at]
      have h1 : j = 0 ∨ j = 1 ∨ j = 2 := by omega
      have e : (hasB q (j : Int) (l ++ [(q, (j : Int), B)])).1 = true := congrArg Prod.fst (has_this (b := (q, (j : Int), B)) ⟨rfl, rfl⟩)
      rcases hb with rfl | rfl | rfl | rfl <;> rcases h1 with rfl | rfl | rfl <;> exact (congrArg Value.bool e).symm
    · rw [updF_ne c]
      refine plF_l hk ?_ ?_ ?_ ?_ (fun _ _ _ => rfl)
      all_goals
        intro i hi _
        rw [has_other]
        rintro ⟨e1, e2⟩
        dsimp only at e1 e2
        subst e1
        have : j = i := by omega
        subst this
        exact c hi
  · refine WireOk.congr ((h.wi i hi).keepP (KeepX.refl.set (Or.inl rfl))) ?_
    rw [has_other]
    rintro ⟨e1, -⟩
    dsimp only at e1
    unfold wireK at e1
    split at e1 <;> omega
theorem PlAt.put0 {b : Brk} (h : PlAt N M P l D lag sh fi wp W) (hb : b.1 = 0) : PlAt N M P (l ++ [b]) D lag sh fi wp W := by
  refine ⟨h.hP, fb_ext h.fb fun k hk => ?_, fun i hi => ?_⟩
  · refine plF_l hk ?_ ?_ ?_ ?_ (fun _ _ _ => rfl)
    all_goals
      intro i hi _
      rw [has_other]
      rintro ⟨e1, e2⟩
      omega
  · refine WireOk.congr (h.wi i hi) ?_
    rw [has_other]
    rintro ⟨e1, -⟩
    unfold wireK at e1
    split at e1 <;> omega
theorem PlAt.put56 {b : Brk} {j r i0 o : Nat} (ho : o = 82 + i0) (h : PlAt N M P l D lag sh fi wp W) (hb : b.1 = 5 ∧ i0 = j ∨ b.1 = 6 ∧ i0 = 3 + j) (hj : b.2.1 = (j : Int)) (hj3 : j < 3) (hr : N ≤ r ∧ r < M ∧ r ≠ P) (hc : W.cell? ⟨r, 0, none⟩ = some (.bool b.2.2)) :
    PlAt N M P (l ++ [b]) D lag sh fi (updF wp i0 (some r)) (W.setCell ⟨P, o, none⟩ (.pointer (some ⟨r, 0, none⟩))) := by
  subst ho
  obtain ⟨q, a, B⟩ := b
  dsimp only at hb hj hc
  subst hj
  have hi6 : i0 < 6 := by omega
  refine ⟨⟨h.hP.1, h.hP.2.1, by simpa using h.hP.2.2⟩, fb_ext (fb_set h.fb) fun k hk => ?_, fun i hi => ?_⟩
  · by_cases c : k = 82 + i0
    · subst c
      rw [updF_at]
      unfold plF
      rw [if_neg (by omega), if_neg (by omega), if_neg (by omega), if_neg (by omega), if_neg (by omega), if_neg (by omega), if_neg (by omega), if_neg (by omega), if_neg (by omega), if_neg (by omega), show 82 + i0 - 82 = i0 by omega, updF_at]
      rfl
    · rw [updF_ne c]
      refine plF_l hk ?_ ?_ ?_ ?_ (fun q hq _ => by rw [updF_ne (by omega)])
      all_goals
        intro i hi _
        rw [has_other]
        rintro ⟨e1, e2⟩
        dsimp only at e1 e2
        omega
  · have hcr : (W.setCell ⟨P, 82 + i0, none⟩ (.pointer (some ⟨r, 0, none⟩))).cell? ⟨r, 0, none⟩ = some (.bool B) := cell_set_far hc hr.2.2
    by_cases c : i = i0
    · subst c
      rw [updF_at]
      have e : hasB (wireK i) ((i % 3 : Nat) : Int) (l ++ [(q, (j : Int), B)]) = (true, B) := by
        refine has_this ?_
        dsimp only
        unfold wireK
        rcases hb with ⟨rfl, rfl⟩ | ⟨rfl, rfl⟩
        · exact ⟨by rw [if_pos hj3], by rw [Nat.mod_eq_of_lt hj3]⟩
        · exact ⟨by rw [if_neg (by omega)], by rw [Nat.add_mod_left, Nat.mod_eq_of_lt hj3]⟩
      exact WireOk.congr (r := (true, B)) ⟨rfl, hr.1, hr.2.1, hr.2.2, hcr⟩ e
    · rw [updF_ne c]
      refine WireOk.congr ((h.wi i hi).keepP (KeepX.refl.set (Or.inl rfl))) ?_
      rw [has_other]
      rintro ⟨e1, e2⟩
      dsimp only at e1 e2
      unfold wireK at e1
      split at e1 <;> omega
theorem PlAt.more {M' : Nat} (h : PlAt N M P l D lag sh fi wp W) (h1 : M ≤ M') (h2 : M' ≤ W.heap.size) : PlAt N M' P l D lag sh fi wp W :=
  ⟨⟨h.hP.1, Nat.lt_of_lt_of_le h.hP.2.1 h1, h2⟩, h.fb, fun q hq => by
    have := h.wi q hq
    revert this
    cases wp q with
    | none => exact fun h => h
    | some b => rintro ⟨g1, g2, g3, g4, g5⟩; exact ⟨g1, g2, Nat.lt_of_lt_of_le g3 h1, g4, g5⟩⟩
end
/-- A slice of faults in memory. -/
def BkAt (a : Option Addr) (l : List Brk) (W : World) : Prop := l ≠ [] → ∃ b off, a = some ⟨b, off, none⟩ ∧ b < W.heap.size ∧ ∀ (k : Nat) (x : Brk), l[k]? = some x → W.cell? ⟨b, off + k * 3, none⟩ = some (.int .i64 x.1) ∧ W.cell? ⟨b, off + k * 3 + 1, none⟩ = some (.int .i64 x.2.1) ∧ W.cell? ⟨b, off + k * 3 + 2, none⟩ = some (.bool x.2.2)
theorem BkAt.step {a : Option Addr} {l : List Brk} {W w2 : World} (h : BkAt a l W) (hb : Below W.heap.size W w2) : BkAt a l w2 := fun hn => by
  obtain ⟨b, off, e, h1, h2⟩ := h hn
  exact ⟨b, off, e, Nat.lt_of_lt_of_le h1 hb.size, fun k x hk => ⟨cell_step (h2 k x hk).1 hb, cell_step (h2 k x hk).2.1 hb, cell_step (h2 k x hk).2.2 hb⟩⟩
/-- What NewPlant answers. -/
def newS (lag : Int) (l : List Brk) : Int := if ¬ (0 ≤ lag ∧ lag ≤ 20) then 3 else if 16 < l.length then 6 else if l.all okBrk then 0 else 2
def plZ (lag : Nat) (k : Nat) : Value := if k = 0 then .bool true else if k = 65 then .int .i64 0 else if k = 66 then .int .i64 (lag : Int) else if k < 82 then .bool false else .pointer none
theorem plZ_eq {lag k : Nat} : plZ lag k = plF [] [] lag f3 false (fun _ => none) k := by
  unfold plZ plF
  have e : ∀ q a : Int, (hasB q a []).1 = false := fun _ _ => rfl
  have e2 : ∀ j q, at3 (ringW [] lag j) q = false := fun j q => by
    have : ringW [] lag j = f3 := by unfold ringW; rw [ringV_nil]; split <;> rfl
    rw [this]; unfold at3 f3; split <;> (try split) <;> rfl
  have e3 : ∀ q, at3 f3 q = false := fun q => by unfold at3 f3; split <;> (try split) <;> rfl
  simp only [e, e2, e3]
  by_cases c0 : k = 0
  · simp [c0]
  by_cases c1 : k = 1
  · simp [c1]
  by_cases c2 : k = 65
  · simp [c2]
  by_cases c3 : k = 66
  · simp [c3]
  simp only [c0, c1, c2, c3, if_false]
  by_cases c4 : k < 82
  · rw [if_pos c4]
    repeat' split
    all_goals first | rfl | omega
  · rw [if_neg c4, if_neg (by omega), if_neg (by omega), if_neg (by omega), if_neg (by omega), if_neg (by omega)]
    first | rfl | (rw [if_neg c4]; rfl)
theorem newZ (lag : Nat) : Array.foldl (fun (cs : Array Value) (x : Value × Nat) => cs.setIfInBounds (2 + x.snd) x.fst) (Try.zeroCells77.setIfInBounds 0 (.bool true)) (Try.zeroCells71.setIfInBounds 64 (.int .i64 (lag : Int))).zipIdx 0 74 = fA 88 (plZ lag) := by kernel_rfl
def okP (q A : Int) (B : Bool) : Prop := (0 ≤ q ∧ q ≤ 6) ∧ (0 ≤ A ∧ A ≤ 2) ∧ (q = 0 → A = 0) ∧ (B = true → q = 5 ∨ q = 6)
theorem okBrk_iff {q A : Int} {B : Bool} : okBrk (q, A, B) = true ↔ okP q A B := by
  unfold okBrk okP
  cases B
  · simp only [Bool.false_and, Bool.not_false, Bool.and_true, Bool.and_eq_true, decide_eq_true_eq, Bool.not_eq_true', Bool.and_eq_false_imp, decide_eq_false_iff_not, Bool.not_eq_false', Bool.false_eq_true, false_implies, and_true]
    constructor
    · rintro ⟨h1, h2⟩
      exact ⟨⟨h1.1, h1.2.1⟩, ⟨h1.2.2.1, h1.2.2.2⟩, fun h => by simpa using h2 h⟩
    · rintro ⟨h1, h2, h3⟩
      exact ⟨⟨h1.1, h1.2, h2.1, h2.2⟩, fun h => by simpa using h3 h⟩
  · simp only [Bool.true_and, Bool.and_eq_true, decide_eq_true_eq, Bool.not_eq_true', Bool.and_eq_false_imp, decide_eq_false_iff_not, Bool.not_eq_false', true_implies]
    constructor
    · rintro ⟨⟨h1, h2⟩, h3⟩
      refine ⟨⟨h1.1, h1.2.1⟩, ⟨h1.2.2.1, h1.2.2.2⟩, fun h => by simpa using h2 h, ?_⟩
      by_cases c : q = 5
      · exact Or.inl c
      · exact Or.inr (by simpa using h3 (by simpa using c))
    · rintro ⟨h1, h2, h3, h4⟩
      refine ⟨⟨⟨h1.1, h1.2, h2.1, h2.2⟩, fun h => by simpa using h3 h⟩, fun h => ?_⟩
      have h5 : ¬ q = 5 := by simpa using h
      rcases h4 with h4 | h4
      · exact absurd h4 h5
      · simpa using h4
theorem bStepP {P : Nat} {w b c : World} (h : Below P w b) (k : Below b.heap.size b c) (hs : P ≤ b.heap.size := by first | omega | (simp; omega)) : Below P w c := h.trans (k.mono hs)
/-- What NewPlant hands back. -/
def NewR (lag : Nat) (l : List Brk) (w : World) (e : Ending) (w' : World) : Prop := (l.all okBrk = false ∧ e = .returned (.tuple #[.pointer none, .int .i64 2]) ∧ Below w.heap.size w w') ∨ (l.all okBrk = true ∧ ∃ P wp, e = .returned (.tuple #[.pointer (some ⟨P, 0, none⟩), .int .i64 0]) ∧ PlAt w.heap.size w'.heap.size P l [] lag f3 false wp w' ∧ Below w.heap.size w w')
/-- The loop's state. -/
def NewL (lag : Nat) (l : List Brk) (N P : Nat) (w W : World) : Prop := ∃ wp, PlAt N W.heap.size P l [] lag f3 false wp W ∧ Below N w W
theorem New_bad (lag : Int) (v : Value) (w : World) (h : ¬ (0 ≤ lag ∧ lag ≤ 20)) : Calls Try.prog 5 #[.int .i64 lag, v] w fun e w' => e = .returned (.tuple #[.pointer none, .int .i64 3]) ∧ Below w.heap.size w w' := by
  by_cases h1 : lag < 0
  · clear h
    go_enter Try.func5, Try.ntmps5
    go_wp2_with fail
    exact bodyPost_ret (v := .tuple #[.pointer none, .int .i64 3]) (by simp only [results, Try.results5]; go_simp) rfl ⟨rfl, (by repeat' (first | exact Below.refl _ _ | assumption | apply bDrewN | apply bDrew | apply bAlloc | (refine bSet ?_ ?_ _) | (refine bStep ?_ (by assumption)) | omega | (simp <;> omega)))⟩
  · have h2 : lag > 20 := by omega
    clear h
    go_enter Try.func5, Try.ntmps5
    go_wp2_with fail
    exact bodyPost_ret (v := .tuple #[.pointer none, .int .i64 3]) (by simp only [results, Try.results5]; go_simp) rfl ⟨rfl, (by repeat' (first | exact Below.refl _ _ | assumption | apply bDrewN | apply bDrew | apply bAlloc | (refine bSet ?_ ?_ _) | (refine bStep ?_ (by assumption)) | omega | (simp <;> omega)))⟩
theorem New_many (lag : Nat) (n c : Nat) (a : Option Addr) (w : World) (hl : lag ≤ 20) (hn : 16 < n) : Calls Try.prog 5 #[.int .i64 (lag : Int), .slice a n c] w fun e w' => e = .returned (.tuple #[.pointer none, .int .i64 6]) ∧ Below w.heap.size w w' := by
  have h1 : ¬ (lag : Int) < 0 := by omega
  have h2 : ¬ (lag : Int) > 20 := by omega
  have h3 : (n : Int) > 16 := by omega
  clear hl hn
  go_enter Try.func5, Try.ntmps5
  go_wp2_with fail
  exact bodyPost_ret (v := .tuple #[.pointer none, .int .i64 6]) (by simp only [results, Try.results5]; go_simp) rfl ⟨rfl, (by repeat' (first | exact Below.refl _ _ | assumption | apply bDrewN | apply bDrew | apply bAlloc | (refine bSet ?_ ?_ _) | (refine bStep ?_ (by assumption)) | omega | (simp <;> omega)))⟩
set_option maxHeartbeats 4000000 in
set_option maxRecDepth 20000 in
theorem New_loop (lag : Nat) (l : List Brk) (c : Nat) (a : Option Addr) (w : World) (hl : lag ≤ 20) (hn : l.length ≤ 16) (hA : BkAt a l w) : Calls Try.prog 5 #[.int .i64 (lag : Int), .slice a l.length c] w (NewR lag l w) := by
  have h1 : ¬ (lag : Int) < 0 := by omega
  have h2 : ¬ (lag : Int) > 20 := by omega
  have h3 : ¬ (l.length : Int) > 16 := by omega
  have HA := Lib.hid hA
  have HN := Lib.hid hn
  clear hl hn hA
  go_enter Try.func5, Try.ntmps5
  go_wp2_with fail
  rw [newZ]
  have HL0 : Hid (NewL lag [] w.heap.size w.heap.size w (w.alloc (.cells (fA 88 (plZ lag)) 77))) := ⟨fun _ => none, ⟨⟨Nat.le_refl _, by simp, Nat.le_refl _⟩, fb_ext (blk_new w _) fun k _ => plZ_eq, fun q hq => rfl⟩, bAl⟩
  generalize hP : w.heap.size = P at *
  go_loopw [26] (fun ix wr => ∃ i : Nat, i ≤ l.length ∧ ix = .int .i64 i ∧ Hid (NewL lag (l.take i) P P w wr) ∧ Hid ((l.take i).all okBrk = true)) (fun ix _ => l.length - (intOf ix).toNat)
  case atStart => exact ⟨0, Nat.zero_le _, rfl, HL0, rfl⟩
  case round =>
    obtain ⟨i, hi, rfl, HS, HO⟩ := hrel
    by_cases hc : i < l.length
    · have c1 : (i : Int) < l.length := by omega
      have c0 : (0 : Int) ≤ i := by omega
      obtain ⟨⟨q, A, B⟩, hk⟩ : ∃ x, l[i]? = some x := ⟨l[i], List.getElem?_eq_getElem hc⟩
      have HTK : Hid (l.take (i + 1) = l.take i ++ [(q, A, B)]) := by unfold Hid; rw [List.take_add_one, hk]; rfl
      have HBAD : Hid (¬ okP q A B → l.all okBrk = false) := fun h => by
        rw [List.all_eq_false]
        exact ⟨(q, A, B), List.mem_of_getElem? hk, fun c => h (okBrk_iff.1 c)⟩
      have HGOOD : Hid (okP q A B → (l.take (i + 1)).all okBrk = true) := fun h => by
        rw [HTK.out, List.all_append, HO.out]
        simp [okBrk_iff.2 h]
      obtain ⟨b, off, rfl, hbl, hbc⟩ := HA.out (by rintro rfl; simp at hk)
      obtain ⟨wp, hpl, hbw⟩ := HS.out
      have HPL := Lib.hid hpl
      have HBW := Lib.hid hbw
      have y0 := cell_step (hbc i _ hk).1 (by rw [hP]; exact hbw)
      have y1 := cell_step (hbc i _ hk).2.1 (by rw [hP]; exact hbw)
      have y2 := cell_step (hbc i _ hk).2.2 (by rw [hP]; exact hbw)
      have ly := cell_lt y0
      have lPW : P < wr.heap.size := hpl.hP.2.1
      clear hk hbc hpl hbw HS HL0 hc
      go_upto_region 9 with fail
      by_cases k0 : q = 0
      · subst k0
        by_cases a1 : A < 0
        · go_wp2_with fail
          all_goals exact bodyPost_ret (v := .tuple #[.pointer none, .int .i64 2]) (by simp only [results, Try.results5]; go_simp) rfl (Or.inl ⟨HBAD.out (by rintro ⟨o1, o2, o3, o4⟩; first | omega | (have := o4 rfl; omega) | (have := o3 rfl; omega)), rfl, by rw [hP]; exact bStepP HBW.out (by repeat' (first | exact Below.refl _ _ | apply bAlloc))⟩)
        by_cases a2 : A > 2
        · go_wp2_with fail
          all_goals exact bodyPost_ret (v := .tuple #[.pointer none, .int .i64 2]) (by simp only [results, Try.results5]; go_simp) rfl (Or.inl ⟨HBAD.out (by rintro ⟨o1, o2, o3, o4⟩; first | omega | (have := o4 rfl; omega) | (have := o3 rfl; omega)), rfl, by rw [hP]; exact bStepP HBW.out (by repeat' (first | exact Below.refl _ _ | apply bAlloc))⟩)
        by_cases a3 : A = 0
        rotate_left
        · go_wp2_with fail
          all_goals exact bodyPost_ret (v := .tuple #[.pointer none, .int .i64 2]) (by simp only [results, Try.results5]; go_simp) rfl (Or.inl ⟨HBAD.out (by rintro ⟨o1, o2, o3, o4⟩; first | omega | (have := o4 rfl; omega) | (have := o3 rfl; omega)), rfl, by rw [hP]; exact bStepP HBW.out (by repeat' (first | exact Below.refl _ _ | apply bAlloc))⟩)
        subst a3
        cases B with
        | true =>
          go_wp2_with fail
          all_goals exact bodyPost_ret (v := .tuple #[.pointer none, .int .i64 2]) (by simp only [results, Try.results5]; go_simp) rfl (Or.inl ⟨HBAD.out (by rintro ⟨o1, o2, o3, o4⟩; first | omega | (have := o4 rfl; omega) | (have := o3 rfl; omega)), rfl, by rw [hP]; exact bStepP HBW.out (by repeat' (first | exact Below.refl _ _ | apply bAlloc))⟩)
        | false =>
          have HB2 := Lib.hid (show Below wr.heap.size wr ((wr.alloc (Obj.cells #[Value.int IntKind.i64 0, Value.int IntKind.i64 0, Value.bool false] 79)).alloc (Obj.cells #[Value.bool false] 4)) from bAlloc bAl _)
          have zA : ((wr.alloc (Obj.cells #[Value.int IntKind.i64 0, Value.int IntKind.i64 0, Value.bool false] 79)).alloc (Obj.cells #[Value.bool false] 4)).cell? ⟨wr.heap.size, 1, none⟩ = some (.int .i64 0) := cellA (blk_cell (blk_new wr _) rfl)
          have zr : ((wr.alloc (Obj.cells #[Value.int IntKind.i64 0, Value.int IntKind.i64 0, Value.bool false] 79)).alloc (Obj.cells #[Value.bool false] 4)).cell? ⟨wr.heap.size + 1, 0, none⟩ = some (.bool false) := by have h := blk_cell (o := 0) (v := .bool false) (blk_new (wr.alloc (Obj.cells #[Value.int IntKind.i64 0, Value.int IntKind.i64 0, Value.bool false] 79)) (Obj.cells #[Value.bool false] 4)) rfl; rw [show (wr.alloc (Obj.cells #[Value.int IntKind.i64 0, Value.int IntKind.i64 0, Value.bool false] 79)).heap.size = wr.heap.size + 1 by simp] at h; exact h
          have HZ := Lib.hid (show ((wr.alloc (Obj.cells #[Value.int IntKind.i64 0, Value.int IntKind.i64 0, Value.bool false] 79)).alloc (Obj.cells #[Value.bool false] 4)).heap.size = wr.heap.size + 2 by simp)
          have lP := HPL.out.hP.2.1
          go_wp2_with fail
          refine ⟨⟨i + 1, by omega, by push_cast; rfl, ?_, (HGOOD.out ⟨by omega, by omega, fun _ => by first | rfl | omega, fun h => by first | exact Or.inl rfl | exact Or.inr rfl | exact absurd h (by decide)⟩)⟩, by simp [intOf]; omega⟩
          show NewL _ _ _ _ _ _
          rw [HTK.out]
          exact ⟨wp, ((HPL.out.step HB2.out).put0 rfl).more (by rw [HZ.out]; omega) (Nat.le_refl _), bStepP HBW.out HB2.out⟩
      by_cases k1 : q = 1
      · subst k1
        by_cases a1 : A < 0
        · go_wp2_with fail
          all_goals exact bodyPost_ret (v := .tuple #[.pointer none, .int .i64 2]) (by simp only [results, Try.results5]; go_simp) rfl (Or.inl ⟨HBAD.out (by rintro ⟨o1, o2, o3, o4⟩; first | omega | (have := o4 rfl; omega) | (have := o3 rfl; omega)), rfl, by rw [hP]; exact bStepP HBW.out (by repeat' (first | exact Below.refl _ _ | apply bAlloc))⟩)
        by_cases a2 : A > 2
        · go_wp2_with fail
          all_goals exact bodyPost_ret (v := .tuple #[.pointer none, .int .i64 2]) (by simp only [results, Try.results5]; go_simp) rfl (Or.inl ⟨HBAD.out (by rintro ⟨o1, o2, o3, o4⟩; first | omega | (have := o4 rfl; omega) | (have := o3 rfl; omega)), rfl, by rw [hP]; exact bStepP HBW.out (by repeat' (first | exact Below.refl _ _ | apply bAlloc))⟩)
        obtain ⟨j, rfl⟩ : ∃ j : Nat, A = (j : Int) := ⟨A.toNat, by omega⟩
        have j2 : j < 3 := by omega
        have j1 : (j : Int) < 3 := by omega
        have j0 : (0 : Int) ≤ j := by omega
        cases B with
        | true =>
          go_wp2_with fail
          all_goals exact bodyPost_ret (v := .tuple #[.pointer none, .int .i64 2]) (by simp only [results, Try.results5]; go_simp) rfl (Or.inl ⟨HBAD.out (by rintro ⟨o1, o2, o3, o4⟩; first | omega | (have := o4 rfl; omega) | (have := o3 rfl; omega)), rfl, by rw [hP]; exact bStepP HBW.out (by repeat' (first | exact Below.refl _ _ | apply bAlloc))⟩)
        | false =>
          have HB2 := Lib.hid (show Below wr.heap.size wr ((wr.alloc (Obj.cells #[Value.int IntKind.i64 1, Value.int IntKind.i64 (j : Int), Value.bool false] 79)).alloc (Obj.cells #[Value.bool false] 4)) from bAlloc bAl _)
          have zA : ((wr.alloc (Obj.cells #[Value.int IntKind.i64 1, Value.int IntKind.i64 (j : Int), Value.bool false] 79)).alloc (Obj.cells #[Value.bool false] 4)).cell? ⟨wr.heap.size, 1, none⟩ = some (.int .i64 (j : Int)) := cellA (blk_cell (blk_new wr _) rfl)
          have zr : ((wr.alloc (Obj.cells #[Value.int IntKind.i64 1, Value.int IntKind.i64 (j : Int), Value.bool false] 79)).alloc (Obj.cells #[Value.bool false] 4)).cell? ⟨wr.heap.size + 1, 0, none⟩ = some (.bool false) := by have h := blk_cell (o := 0) (v := .bool false) (blk_new (wr.alloc (Obj.cells #[Value.int IntKind.i64 1, Value.int IntKind.i64 (j : Int), Value.bool false] 79)) (Obj.cells #[Value.bool false] 4)) rfl; rw [show (wr.alloc (Obj.cells #[Value.int IntKind.i64 1, Value.int IntKind.i64 (j : Int), Value.bool false] 79)).heap.size = wr.heap.size + 1 by simp] at h; exact h
          have HZ := Lib.hid (show ((wr.alloc (Obj.cells #[Value.int IntKind.i64 1, Value.int IntKind.i64 (j : Int), Value.bool false] 79)).alloc (Obj.cells #[Value.bool false] 4)).heap.size = wr.heap.size + 2 by simp)
          have lP := HPL.out.hP.2.1
          go_wp2_with fail
          have HPL2 := Lib.hid ((HPL.out.step HB2.out).more (M' := ((wr.alloc (Obj.cells #[Value.int IntKind.i64 1, Value.int IntKind.i64 (j : Int), Value.bool false] 79)).alloc (Obj.cells #[Value.bool false] 4)).heap.size) (by rw [HZ.out]; omega) (Nat.le_refl _))
          have HBW2 := Lib.hid (bStepP HBW.out HB2.out)
          have lP2 := HPL2.out.lt
          have l8 : wr.heap.size < ((wr.alloc (Obj.cells #[Value.int IntKind.i64 1, Value.int IntKind.i64 (j : Int), Value.bool false] 79)).alloc (Obj.cells #[Value.bool false] 4)).heap.size := by rw [HZ.out]; omega
          have l9 : wr.heap.size + 1 < ((wr.alloc (Obj.cells #[Value.int IntKind.i64 1, Value.int IntKind.i64 (j : Int), Value.bool false] 79)).alloc (Obj.cells #[Value.bool false] 4)).heap.size := by rw [HZ.out]; omega
          generalize ((wr.alloc (Obj.cells #[Value.int IntKind.i64 1, Value.int IntKind.i64 (j : Int), Value.bool false] 79)).alloc (Obj.cells #[Value.bool false] 4)) = W2 at *
          have xP := HPL2.out.cell (show 79 + j < 88 by omega)
          have q1 : W2.drew.cell? ⟨P, 79 + j, none⟩ = some _ := xP
          have q2 : W2.drew.frozen? ⟨P, 79 + j, none⟩ = false := fb_free HPL2.out.fb
          have qA : W2.drew.cell? ⟨wr.heap.size, 1, none⟩ = some (.int .i64 (j : Int)) := zA
          have lq : wr.heap.size < W2.drew.heap.size := l8
          have lp : P < W2.drew.heap.size := lP2
          clear xP lP
          refine wp_tail_lock 7 (by kernel_rfl) (by kernel_rfl) ?_
          simp only [List.take_succ_cons, List.take_zero, List.drop_succ_cons, List.drop_zero]
          iterate 7 (first | ((first | (refine WT.skip rfl rfl rfl ?_) | (refine WT.skipU rfl rfl rfl ?_)); simp only [Act.put, List.setIfInBounds_toArray, List.set_cons_zero, List.set_cons_succ, List.set_nil]) | ((first | (apply WT.val; (exact rfl)) | (apply WT.valg; (exact rfl); (exact rfl); (exact rfl))); (simp [go_sem, qA, lq, lp, j0, j1, j2]; first | done | exact rfl); simp only [Act.put, List.setIfInBounds_toArray, List.set_cons_zero, List.set_cons_succ, List.set_nil]))
          refine WT.fin ?_
          go_wp2_with fail
          refine ⟨⟨i + 1, by omega, by push_cast; rfl, ?_, (HGOOD.out ⟨by omega, by omega, fun _ => by first | rfl | omega, fun h => by first | exact Or.inl rfl | exact Or.inr rfl | exact absurd h (by decide)⟩)⟩, by simp [intOf]; omega⟩
          show NewL _ _ _ _ _ _
          rw [HTK.out]
          exact ⟨wp, ((HPL2.out.put14 (b := (1, (j : Int), false)) (j := j) (by simp) rfl j2).step (Below.refl _ _).drew).more (by simp) (Nat.le_refl _), (HBW2.out.setCell (Nat.le_refl _) _).drew⟩
      by_cases k2 : q = 2
      · subst k2
        by_cases a1 : A < 0
        · go_wp2_with fail
          all_goals exact bodyPost_ret (v := .tuple #[.pointer none, .int .i64 2]) (by simp only [results, Try.results5]; go_simp) rfl (Or.inl ⟨HBAD.out (by rintro ⟨o1, o2, o3, o4⟩; first | omega | (have := o4 rfl; omega) | (have := o3 rfl; omega)), rfl, by rw [hP]; exact bStepP HBW.out (by repeat' (first | exact Below.refl _ _ | apply bAlloc))⟩)
        by_cases a2 : A > 2
        · go_wp2_with fail
          all_goals exact bodyPost_ret (v := .tuple #[.pointer none, .int .i64 2]) (by simp only [results, Try.results5]; go_simp) rfl (Or.inl ⟨HBAD.out (by rintro ⟨o1, o2, o3, o4⟩; first | omega | (have := o4 rfl; omega) | (have := o3 rfl; omega)), rfl, by rw [hP]; exact bStepP HBW.out (by repeat' (first | exact Below.refl _ _ | apply bAlloc))⟩)
        obtain ⟨j, rfl⟩ : ∃ j : Nat, A = (j : Int) := ⟨A.toNat, by omega⟩
        have j2 : j < 3 := by omega
        have j1 : (j : Int) < 3 := by omega
        have j0 : (0 : Int) ≤ j := by omega
        cases B with
        | true =>
          go_wp2_with fail
          all_goals exact bodyPost_ret (v := .tuple #[.pointer none, .int .i64 2]) (by simp only [results, Try.results5]; go_simp) rfl (Or.inl ⟨HBAD.out (by rintro ⟨o1, o2, o3, o4⟩; first | omega | (have := o4 rfl; omega) | (have := o3 rfl; omega)), rfl, by rw [hP]; exact bStepP HBW.out (by repeat' (first | exact Below.refl _ _ | apply bAlloc))⟩)
        | false =>
          have HB2 := Lib.hid (show Below wr.heap.size wr ((wr.alloc (Obj.cells #[Value.int IntKind.i64 2, Value.int IntKind.i64 (j : Int), Value.bool false] 79)).alloc (Obj.cells #[Value.bool false] 4)) from bAlloc bAl _)
          have zA : ((wr.alloc (Obj.cells #[Value.int IntKind.i64 2, Value.int IntKind.i64 (j : Int), Value.bool false] 79)).alloc (Obj.cells #[Value.bool false] 4)).cell? ⟨wr.heap.size, 1, none⟩ = some (.int .i64 (j : Int)) := cellA (blk_cell (blk_new wr _) rfl)
          have zr : ((wr.alloc (Obj.cells #[Value.int IntKind.i64 2, Value.int IntKind.i64 (j : Int), Value.bool false] 79)).alloc (Obj.cells #[Value.bool false] 4)).cell? ⟨wr.heap.size + 1, 0, none⟩ = some (.bool false) := by have h := blk_cell (o := 0) (v := .bool false) (blk_new (wr.alloc (Obj.cells #[Value.int IntKind.i64 2, Value.int IntKind.i64 (j : Int), Value.bool false] 79)) (Obj.cells #[Value.bool false] 4)) rfl; rw [show (wr.alloc (Obj.cells #[Value.int IntKind.i64 2, Value.int IntKind.i64 (j : Int), Value.bool false] 79)).heap.size = wr.heap.size + 1 by simp] at h; exact h
          have HZ := Lib.hid (show ((wr.alloc (Obj.cells #[Value.int IntKind.i64 2, Value.int IntKind.i64 (j : Int), Value.bool false] 79)).alloc (Obj.cells #[Value.bool false] 4)).heap.size = wr.heap.size + 2 by simp)
          have lP := HPL.out.hP.2.1
          go_wp2_with fail
          have HPL2 := Lib.hid ((HPL.out.step HB2.out).more (M' := ((wr.alloc (Obj.cells #[Value.int IntKind.i64 2, Value.int IntKind.i64 (j : Int), Value.bool false] 79)).alloc (Obj.cells #[Value.bool false] 4)).heap.size) (by rw [HZ.out]; omega) (Nat.le_refl _))
          have HBW2 := Lib.hid (bStepP HBW.out HB2.out)
          have lP2 := HPL2.out.lt
          have l8 : wr.heap.size < ((wr.alloc (Obj.cells #[Value.int IntKind.i64 2, Value.int IntKind.i64 (j : Int), Value.bool false] 79)).alloc (Obj.cells #[Value.bool false] 4)).heap.size := by rw [HZ.out]; omega
          have l9 : wr.heap.size + 1 < ((wr.alloc (Obj.cells #[Value.int IntKind.i64 2, Value.int IntKind.i64 (j : Int), Value.bool false] 79)).alloc (Obj.cells #[Value.bool false] 4)).heap.size := by rw [HZ.out]; omega
          generalize ((wr.alloc (Obj.cells #[Value.int IntKind.i64 2, Value.int IntKind.i64 (j : Int), Value.bool false] 79)).alloc (Obj.cells #[Value.bool false] 4)) = W2 at *
          have xP := HPL2.out.cell (show 76 + j < 88 by omega)
          have q1 : W2.drew.cell? ⟨P, 76 + j, none⟩ = some _ := xP
          have q2 : W2.drew.frozen? ⟨P, 76 + j, none⟩ = false := fb_free HPL2.out.fb
          have qA : W2.drew.cell? ⟨wr.heap.size, 1, none⟩ = some (.int .i64 (j : Int)) := zA
          have lq : wr.heap.size < W2.drew.heap.size := l8
          have lp : P < W2.drew.heap.size := lP2
          clear xP lP
          refine wp_tail_lock 7 (by kernel_rfl) (by kernel_rfl) ?_
          simp only [List.take_succ_cons, List.take_zero, List.drop_succ_cons, List.drop_zero]
          iterate 7 (first | ((first | (refine WT.skip rfl rfl rfl ?_) | (refine WT.skipU rfl rfl rfl ?_)); simp only [Act.put, List.setIfInBounds_toArray, List.set_cons_zero, List.set_cons_succ, List.set_nil]) | ((first | (apply WT.val; (exact rfl)) | (apply WT.valg; (exact rfl); (exact rfl); (exact rfl))); (simp [go_sem, qA, lq, lp, j0, j1, j2]; first | done | exact rfl); simp only [Act.put, List.setIfInBounds_toArray, List.set_cons_zero, List.set_cons_succ, List.set_nil]))
          refine WT.fin ?_
          go_wp2_with fail
          refine ⟨⟨i + 1, by omega, by push_cast; rfl, ?_, (HGOOD.out ⟨by omega, by omega, fun _ => by first | rfl | omega, fun h => by first | exact Or.inl rfl | exact Or.inr rfl | exact absurd h (by decide)⟩)⟩, by simp [intOf]; omega⟩
          show NewL _ _ _ _ _ _
          rw [HTK.out]
          exact ⟨wp, ((HPL2.out.put14 (b := (2, (j : Int), false)) (j := j) (by simp) rfl j2).step (Below.refl _ _).drew).more (by simp) (Nat.le_refl _), (HBW2.out.setCell (Nat.le_refl _) _).drew⟩
      by_cases k3 : q = 3
      · subst k3
        by_cases a1 : A < 0
        · go_wp2_with fail
          all_goals exact bodyPost_ret (v := .tuple #[.pointer none, .int .i64 2]) (by simp only [results, Try.results5]; go_simp) rfl (Or.inl ⟨HBAD.out (by rintro ⟨o1, o2, o3, o4⟩; first | omega | (have := o4 rfl; omega) | (have := o3 rfl; omega)), rfl, by rw [hP]; exact bStepP HBW.out (by repeat' (first | exact Below.refl _ _ | apply bAlloc))⟩)
        by_cases a2 : A > 2
        · go_wp2_with fail
          all_goals exact bodyPost_ret (v := .tuple #[.pointer none, .int .i64 2]) (by simp only [results, Try.results5]; go_simp) rfl (Or.inl ⟨HBAD.out (by rintro ⟨o1, o2, o3, o4⟩; first | omega | (have := o4 rfl; omega) | (have := o3 rfl; omega)), rfl, by rw [hP]; exact bStepP HBW.out (by repeat' (first | exact Below.refl _ _ | apply bAlloc))⟩)
        obtain ⟨j, rfl⟩ : ∃ j : Nat, A = (j : Int) := ⟨A.toNat, by omega⟩
        have j2 : j < 3 := by omega
        have j1 : (j : Int) < 3 := by omega
        have j0 : (0 : Int) ≤ j := by omega
        cases B with
        | true =>
          go_wp2_with fail
          all_goals exact bodyPost_ret (v := .tuple #[.pointer none, .int .i64 2]) (by simp only [results, Try.results5]; go_simp) rfl (Or.inl ⟨HBAD.out (by rintro ⟨o1, o2, o3, o4⟩; first | omega | (have := o4 rfl; omega) | (have := o3 rfl; omega)), rfl, by rw [hP]; exact bStepP HBW.out (by repeat' (first | exact Below.refl _ _ | apply bAlloc))⟩)
        | false =>
          have HB2 := Lib.hid (show Below wr.heap.size wr ((wr.alloc (Obj.cells #[Value.int IntKind.i64 3, Value.int IntKind.i64 (j : Int), Value.bool false] 79)).alloc (Obj.cells #[Value.bool false] 4)) from bAlloc bAl _)
          have zA : ((wr.alloc (Obj.cells #[Value.int IntKind.i64 3, Value.int IntKind.i64 (j : Int), Value.bool false] 79)).alloc (Obj.cells #[Value.bool false] 4)).cell? ⟨wr.heap.size, 1, none⟩ = some (.int .i64 (j : Int)) := cellA (blk_cell (blk_new wr _) rfl)
          have zr : ((wr.alloc (Obj.cells #[Value.int IntKind.i64 3, Value.int IntKind.i64 (j : Int), Value.bool false] 79)).alloc (Obj.cells #[Value.bool false] 4)).cell? ⟨wr.heap.size + 1, 0, none⟩ = some (.bool false) := by have h := blk_cell (o := 0) (v := .bool false) (blk_new (wr.alloc (Obj.cells #[Value.int IntKind.i64 3, Value.int IntKind.i64 (j : Int), Value.bool false] 79)) (Obj.cells #[Value.bool false] 4)) rfl; rw [show (wr.alloc (Obj.cells #[Value.int IntKind.i64 3, Value.int IntKind.i64 (j : Int), Value.bool false] 79)).heap.size = wr.heap.size + 1 by simp] at h; exact h
          have HZ := Lib.hid (show ((wr.alloc (Obj.cells #[Value.int IntKind.i64 3, Value.int IntKind.i64 (j : Int), Value.bool false] 79)).alloc (Obj.cells #[Value.bool false] 4)).heap.size = wr.heap.size + 2 by simp)
          have lP := HPL.out.hP.2.1
          go_wp2_with fail
          have HPL2 := Lib.hid ((HPL.out.step HB2.out).more (M' := ((wr.alloc (Obj.cells #[Value.int IntKind.i64 3, Value.int IntKind.i64 (j : Int), Value.bool false] 79)).alloc (Obj.cells #[Value.bool false] 4)).heap.size) (by rw [HZ.out]; omega) (Nat.le_refl _))
          have HBW2 := Lib.hid (bStepP HBW.out HB2.out)
          have lP2 := HPL2.out.lt
          have l8 : wr.heap.size < ((wr.alloc (Obj.cells #[Value.int IntKind.i64 3, Value.int IntKind.i64 (j : Int), Value.bool false] 79)).alloc (Obj.cells #[Value.bool false] 4)).heap.size := by rw [HZ.out]; omega
          have l9 : wr.heap.size + 1 < ((wr.alloc (Obj.cells #[Value.int IntKind.i64 3, Value.int IntKind.i64 (j : Int), Value.bool false] 79)).alloc (Obj.cells #[Value.bool false] 4)).heap.size := by rw [HZ.out]; omega
          generalize ((wr.alloc (Obj.cells #[Value.int IntKind.i64 3, Value.int IntKind.i64 (j : Int), Value.bool false] 79)).alloc (Obj.cells #[Value.bool false] 4)) = W2 at *
          have xP := HPL2.out.cell (show 67 + j < 88 by omega)
          have q1 : W2.drew.cell? ⟨P, 67 + j, none⟩ = some _ := xP
          have q2 : W2.drew.frozen? ⟨P, 67 + j, none⟩ = false := fb_free HPL2.out.fb
          have qA : W2.drew.cell? ⟨wr.heap.size, 1, none⟩ = some (.int .i64 (j : Int)) := zA
          have lq : wr.heap.size < W2.drew.heap.size := l8
          have lp : P < W2.drew.heap.size := lP2
          clear xP lP
          refine wp_tail_lock 7 (by kernel_rfl) (by kernel_rfl) ?_
          simp only [List.take_succ_cons, List.take_zero, List.drop_succ_cons, List.drop_zero]
          iterate 7 (first | ((first | (refine WT.skip rfl rfl rfl ?_) | (refine WT.skipU rfl rfl rfl ?_)); simp only [Act.put, List.setIfInBounds_toArray, List.set_cons_zero, List.set_cons_succ, List.set_nil]) | ((first | (apply WT.val; (exact rfl)) | (apply WT.valg; (exact rfl); (exact rfl); (exact rfl))); (simp [go_sem, qA, lq, lp, j0, j1, j2]; first | done | exact rfl); simp only [Act.put, List.setIfInBounds_toArray, List.set_cons_zero, List.set_cons_succ, List.set_nil]))
          refine WT.fin ?_
          go_wp2_with fail
          refine ⟨⟨i + 1, by omega, by push_cast; rfl, ?_, (HGOOD.out ⟨by omega, by omega, fun _ => by first | rfl | omega, fun h => by first | exact Or.inl rfl | exact Or.inr rfl | exact absurd h (by decide)⟩)⟩, by simp [intOf]; omega⟩
          show NewL _ _ _ _ _ _
          rw [HTK.out]
          exact ⟨wp, ((HPL2.out.put14 (b := (3, (j : Int), false)) (j := j) (by simp) rfl j2).step (Below.refl _ _).drew).more (by simp) (Nat.le_refl _), (HBW2.out.setCell (Nat.le_refl _) _).drew⟩
      by_cases k4 : q = 4
      · subst k4
        by_cases a1 : A < 0
        · go_wp2_with fail
          all_goals exact bodyPost_ret (v := .tuple #[.pointer none, .int .i64 2]) (by simp only [results, Try.results5]; go_simp) rfl (Or.inl ⟨HBAD.out (by rintro ⟨o1, o2, o3, o4⟩; first | omega | (have := o4 rfl; omega) | (have := o3 rfl; omega)), rfl, by rw [hP]; exact bStepP HBW.out (by repeat' (first | exact Below.refl _ _ | apply bAlloc))⟩)
        by_cases a2 : A > 2
        · go_wp2_with fail
          all_goals exact bodyPost_ret (v := .tuple #[.pointer none, .int .i64 2]) (by simp only [results, Try.results5]; go_simp) rfl (Or.inl ⟨HBAD.out (by rintro ⟨o1, o2, o3, o4⟩; first | omega | (have := o4 rfl; omega) | (have := o3 rfl; omega)), rfl, by rw [hP]; exact bStepP HBW.out (by repeat' (first | exact Below.refl _ _ | apply bAlloc))⟩)
        obtain ⟨j, rfl⟩ : ∃ j : Nat, A = (j : Int) := ⟨A.toNat, by omega⟩
        have j2 : j < 3 := by omega
        have j1 : (j : Int) < 3 := by omega
        have j0 : (0 : Int) ≤ j := by omega
        cases B with
        | true =>
          go_wp2_with fail
          all_goals exact bodyPost_ret (v := .tuple #[.pointer none, .int .i64 2]) (by simp only [results, Try.results5]; go_simp) rfl (Or.inl ⟨HBAD.out (by rintro ⟨o1, o2, o3, o4⟩; first | omega | (have := o4 rfl; omega) | (have := o3 rfl; omega)), rfl, by rw [hP]; exact bStepP HBW.out (by repeat' (first | exact Below.refl _ _ | apply bAlloc))⟩)
        | false =>
          have HB2 := Lib.hid (show Below wr.heap.size wr ((wr.alloc (Obj.cells #[Value.int IntKind.i64 4, Value.int IntKind.i64 (j : Int), Value.bool false] 79)).alloc (Obj.cells #[Value.bool false] 4)) from bAlloc bAl _)
          have zA : ((wr.alloc (Obj.cells #[Value.int IntKind.i64 4, Value.int IntKind.i64 (j : Int), Value.bool false] 79)).alloc (Obj.cells #[Value.bool false] 4)).cell? ⟨wr.heap.size, 1, none⟩ = some (.int .i64 (j : Int)) := cellA (blk_cell (blk_new wr _) rfl)
          have zr : ((wr.alloc (Obj.cells #[Value.int IntKind.i64 4, Value.int IntKind.i64 (j : Int), Value.bool false] 79)).alloc (Obj.cells #[Value.bool false] 4)).cell? ⟨wr.heap.size + 1, 0, none⟩ = some (.bool false) := by have h := blk_cell (o := 0) (v := .bool false) (blk_new (wr.alloc (Obj.cells #[Value.int IntKind.i64 4, Value.int IntKind.i64 (j : Int), Value.bool false] 79)) (Obj.cells #[Value.bool false] 4)) rfl; rw [show (wr.alloc (Obj.cells #[Value.int IntKind.i64 4, Value.int IntKind.i64 (j : Int), Value.bool false] 79)).heap.size = wr.heap.size + 1 by simp] at h; exact h
          have HZ := Lib.hid (show ((wr.alloc (Obj.cells #[Value.int IntKind.i64 4, Value.int IntKind.i64 (j : Int), Value.bool false] 79)).alloc (Obj.cells #[Value.bool false] 4)).heap.size = wr.heap.size + 2 by simp)
          have lP := HPL.out.hP.2.1
          go_wp2_with fail
          have HPL2 := Lib.hid ((HPL.out.step HB2.out).more (M' := ((wr.alloc (Obj.cells #[Value.int IntKind.i64 4, Value.int IntKind.i64 (j : Int), Value.bool false] 79)).alloc (Obj.cells #[Value.bool false] 4)).heap.size) (by rw [HZ.out]; omega) (Nat.le_refl _))
          have HBW2 := Lib.hid (bStepP HBW.out HB2.out)
          have lP2 := HPL2.out.lt
          have l8 : wr.heap.size < ((wr.alloc (Obj.cells #[Value.int IntKind.i64 4, Value.int IntKind.i64 (j : Int), Value.bool false] 79)).alloc (Obj.cells #[Value.bool false] 4)).heap.size := by rw [HZ.out]; omega
          have l9 : wr.heap.size + 1 < ((wr.alloc (Obj.cells #[Value.int IntKind.i64 4, Value.int IntKind.i64 (j : Int), Value.bool false] 79)).alloc (Obj.cells #[Value.bool false] 4)).heap.size := by rw [HZ.out]; omega
          generalize ((wr.alloc (Obj.cells #[Value.int IntKind.i64 4, Value.int IntKind.i64 (j : Int), Value.bool false] 79)).alloc (Obj.cells #[Value.bool false] 4)) = W2 at *
          have xP := HPL2.out.cell (show 70 + j < 88 by omega)
          have q1 : W2.drew.cell? ⟨P, 70 + j, none⟩ = some _ := xP
          have q2 : W2.drew.frozen? ⟨P, 70 + j, none⟩ = false := fb_free HPL2.out.fb
          have qA : W2.drew.cell? ⟨wr.heap.size, 1, none⟩ = some (.int .i64 (j : Int)) := zA
          have lq : wr.heap.size < W2.drew.heap.size := l8
          have lp : P < W2.drew.heap.size := lP2
          clear xP lP
          refine wp_tail_lock 7 (by kernel_rfl) (by kernel_rfl) ?_
          simp only [List.take_succ_cons, List.take_zero, List.drop_succ_cons, List.drop_zero]
          iterate 7 (first | ((first | (refine WT.skip rfl rfl rfl ?_) | (refine WT.skipU rfl rfl rfl ?_)); simp only [Act.put, List.setIfInBounds_toArray, List.set_cons_zero, List.set_cons_succ, List.set_nil]) | ((first | (apply WT.val; (exact rfl)) | (apply WT.valg; (exact rfl); (exact rfl); (exact rfl))); (simp [go_sem, qA, lq, lp, j0, j1, j2]; first | done | exact rfl); simp only [Act.put, List.setIfInBounds_toArray, List.set_cons_zero, List.set_cons_succ, List.set_nil]))
          refine WT.fin ?_
          go_wp2_with fail
          refine ⟨⟨i + 1, by omega, by push_cast; rfl, ?_, (HGOOD.out ⟨by omega, by omega, fun _ => by first | rfl | omega, fun h => by first | exact Or.inl rfl | exact Or.inr rfl | exact absurd h (by decide)⟩)⟩, by simp [intOf]; omega⟩
          show NewL _ _ _ _ _ _
          rw [HTK.out]
          exact ⟨wp, ((HPL2.out.put14 (b := (4, (j : Int), false)) (j := j) (by simp) rfl j2).step (Below.refl _ _).drew).more (by simp) (Nat.le_refl _), (HBW2.out.setCell (Nat.le_refl _) _).drew⟩
      by_cases k5 : q = 5
      · subst k5
        by_cases a1 : A < 0
        · go_wp2_with fail
          all_goals exact bodyPost_ret (v := .tuple #[.pointer none, .int .i64 2]) (by simp only [results, Try.results5]; go_simp) rfl (Or.inl ⟨HBAD.out (by rintro ⟨o1, o2, o3, o4⟩; first | omega | (have := o4 rfl; omega) | (have := o3 rfl; omega)), rfl, by rw [hP]; exact bStepP HBW.out (by repeat' (first | exact Below.refl _ _ | apply bAlloc))⟩)
        by_cases a2 : A > 2
        · go_wp2_with fail
          all_goals exact bodyPost_ret (v := .tuple #[.pointer none, .int .i64 2]) (by simp only [results, Try.results5]; go_simp) rfl (Or.inl ⟨HBAD.out (by rintro ⟨o1, o2, o3, o4⟩; first | omega | (have := o4 rfl; omega) | (have := o3 rfl; omega)), rfl, by rw [hP]; exact bStepP HBW.out (by repeat' (first | exact Below.refl _ _ | apply bAlloc))⟩)
        obtain ⟨j, rfl⟩ : ∃ j : Nat, A = (j : Int) := ⟨A.toNat, by omega⟩
        have j2 : j < 3 := by omega
        have j1 : (j : Int) < 3 := by omega
        have j0 : (0 : Int) ≤ j := by omega
        cases B with
        | true =>
          have HB2 := Lib.hid (show Below wr.heap.size wr ((wr.alloc (Obj.cells #[Value.int IntKind.i64 5, Value.int IntKind.i64 (j : Int), Value.bool true] 79)).alloc (Obj.cells #[Value.bool true] 4)) from bAlloc bAl _)
          have zA : ((wr.alloc (Obj.cells #[Value.int IntKind.i64 5, Value.int IntKind.i64 (j : Int), Value.bool true] 79)).alloc (Obj.cells #[Value.bool true] 4)).cell? ⟨wr.heap.size, 1, none⟩ = some (.int .i64 (j : Int)) := cellA (blk_cell (blk_new wr _) rfl)
          have zr : ((wr.alloc (Obj.cells #[Value.int IntKind.i64 5, Value.int IntKind.i64 (j : Int), Value.bool true] 79)).alloc (Obj.cells #[Value.bool true] 4)).cell? ⟨wr.heap.size + 1, 0, none⟩ = some (.bool true) := by have h := blk_cell (o := 0) (v := .bool true) (blk_new (wr.alloc (Obj.cells #[Value.int IntKind.i64 5, Value.int IntKind.i64 (j : Int), Value.bool true] 79)) (Obj.cells #[Value.bool true] 4)) rfl; rw [show (wr.alloc (Obj.cells #[Value.int IntKind.i64 5, Value.int IntKind.i64 (j : Int), Value.bool true] 79)).heap.size = wr.heap.size + 1 by simp] at h; exact h
          have HZ := Lib.hid (show ((wr.alloc (Obj.cells #[Value.int IntKind.i64 5, Value.int IntKind.i64 (j : Int), Value.bool true] 79)).alloc (Obj.cells #[Value.bool true] 4)).heap.size = wr.heap.size + 2 by simp)
          have lP := HPL.out.hP.2.1
          go_wp2_with fail
          have HPL2 := Lib.hid ((HPL.out.step HB2.out).more (M' := ((wr.alloc (Obj.cells #[Value.int IntKind.i64 5, Value.int IntKind.i64 (j : Int), Value.bool true] 79)).alloc (Obj.cells #[Value.bool true] 4)).heap.size) (by rw [HZ.out]; omega) (Nat.le_refl _))
          have HBW2 := Lib.hid (bStepP HBW.out HB2.out)
          have lP2 := HPL2.out.lt
          have l8 : wr.heap.size < ((wr.alloc (Obj.cells #[Value.int IntKind.i64 5, Value.int IntKind.i64 (j : Int), Value.bool true] 79)).alloc (Obj.cells #[Value.bool true] 4)).heap.size := by rw [HZ.out]; omega
          have l9 : wr.heap.size + 1 < ((wr.alloc (Obj.cells #[Value.int IntKind.i64 5, Value.int IntKind.i64 (j : Int), Value.bool true] 79)).alloc (Obj.cells #[Value.bool true] 4)).heap.size := by rw [HZ.out]; omega
          generalize ((wr.alloc (Obj.cells #[Value.int IntKind.i64 5, Value.int IntKind.i64 (j : Int), Value.bool true] 79)).alloc (Obj.cells #[Value.bool true] 4)) = W2 at *
          have xP := HPL2.out.cell (show 82 + j < 88 by omega)
          have q1 : W2.drew.cell? ⟨P, 82 + j, none⟩ = some _ := xP
          have q2 : W2.drew.frozen? ⟨P, 82 + j, none⟩ = false := fb_free HPL2.out.fb
          have qA : W2.drew.cell? ⟨wr.heap.size, 1, none⟩ = some (.int .i64 (j : Int)) := zA
          have lq : wr.heap.size < W2.drew.heap.size := l8
          have lp : P < W2.drew.heap.size := lP2
          clear xP lP
          refine wp_tail_lock 7 (by kernel_rfl) (by kernel_rfl) ?_
          simp only [List.take_succ_cons, List.take_zero, List.drop_succ_cons, List.drop_zero]
          iterate 7 (first | ((first | (refine WT.skip rfl rfl rfl ?_) | (refine WT.skipU rfl rfl rfl ?_)); simp only [Act.put, List.setIfInBounds_toArray, List.set_cons_zero, List.set_cons_succ, List.set_nil]) | ((first | (apply WT.val; (exact rfl)) | (apply WT.valg; (exact rfl); (exact rfl); (exact rfl))); (simp [go_sem, qA, lq, lp, j0, j1, j2]; first | done | exact rfl); simp only [Act.put, List.setIfInBounds_toArray, List.set_cons_zero, List.set_cons_succ, List.set_nil]))
          refine WT.fin ?_
          go_wp2_with fail
          refine ⟨⟨i + 1, by omega, by push_cast; rfl, ?_, (HGOOD.out ⟨by omega, by omega, fun _ => by first | rfl | omega, fun h => by first | exact Or.inl rfl | exact Or.inr rfl | exact absurd h (by decide)⟩)⟩, by simp [intOf]; omega⟩
          show NewL _ _ _ _ _ _
          rw [HTK.out]
          exact ⟨updF wp (j) (some (wr.heap.size + 1)), ((PlAt.put56 (o := 82 + j) (by omega) HPL2.out (b := (5, (j : Int), true)) (j := j) (r := wr.heap.size + 1) (i0 := j) (Or.inl ⟨rfl, rfl⟩) rfl j2 ⟨by omega, l9, by omega⟩ zr).step (Below.refl _ _).drew).more (by simp) (Nat.le_refl _), (HBW2.out.setCell (Nat.le_refl _) _).drew⟩
        | false =>
          have HB2 := Lib.hid (show Below wr.heap.size wr ((wr.alloc (Obj.cells #[Value.int IntKind.i64 5, Value.int IntKind.i64 (j : Int), Value.bool false] 79)).alloc (Obj.cells #[Value.bool false] 4)) from bAlloc bAl _)
          have zA : ((wr.alloc (Obj.cells #[Value.int IntKind.i64 5, Value.int IntKind.i64 (j : Int), Value.bool false] 79)).alloc (Obj.cells #[Value.bool false] 4)).cell? ⟨wr.heap.size, 1, none⟩ = some (.int .i64 (j : Int)) := cellA (blk_cell (blk_new wr _) rfl)
          have zr : ((wr.alloc (Obj.cells #[Value.int IntKind.i64 5, Value.int IntKind.i64 (j : Int), Value.bool false] 79)).alloc (Obj.cells #[Value.bool false] 4)).cell? ⟨wr.heap.size + 1, 0, none⟩ = some (.bool false) := by have h := blk_cell (o := 0) (v := .bool false) (blk_new (wr.alloc (Obj.cells #[Value.int IntKind.i64 5, Value.int IntKind.i64 (j : Int), Value.bool false] 79)) (Obj.cells #[Value.bool false] 4)) rfl; rw [show (wr.alloc (Obj.cells #[Value.int IntKind.i64 5, Value.int IntKind.i64 (j : Int), Value.bool false] 79)).heap.size = wr.heap.size + 1 by simp] at h; exact h
          have HZ := Lib.hid (show ((wr.alloc (Obj.cells #[Value.int IntKind.i64 5, Value.int IntKind.i64 (j : Int), Value.bool false] 79)).alloc (Obj.cells #[Value.bool false] 4)).heap.size = wr.heap.size + 2 by simp)
          have lP := HPL.out.hP.2.1
          go_wp2_with fail
          have HPL2 := Lib.hid ((HPL.out.step HB2.out).more (M' := ((wr.alloc (Obj.cells #[Value.int IntKind.i64 5, Value.int IntKind.i64 (j : Int), Value.bool false] 79)).alloc (Obj.cells #[Value.bool false] 4)).heap.size) (by rw [HZ.out]; omega) (Nat.le_refl _))
          have HBW2 := Lib.hid (bStepP HBW.out HB2.out)
          have lP2 := HPL2.out.lt
          have l8 : wr.heap.size < ((wr.alloc (Obj.cells #[Value.int IntKind.i64 5, Value.int IntKind.i64 (j : Int), Value.bool false] 79)).alloc (Obj.cells #[Value.bool false] 4)).heap.size := by rw [HZ.out]; omega
          have l9 : wr.heap.size + 1 < ((wr.alloc (Obj.cells #[Value.int IntKind.i64 5, Value.int IntKind.i64 (j : Int), Value.bool false] 79)).alloc (Obj.cells #[Value.bool false] 4)).heap.size := by rw [HZ.out]; omega
          generalize ((wr.alloc (Obj.cells #[Value.int IntKind.i64 5, Value.int IntKind.i64 (j : Int), Value.bool false] 79)).alloc (Obj.cells #[Value.bool false] 4)) = W2 at *
          have xP := HPL2.out.cell (show 82 + j < 88 by omega)
          have q1 : W2.drew.cell? ⟨P, 82 + j, none⟩ = some _ := xP
          have q2 : W2.drew.frozen? ⟨P, 82 + j, none⟩ = false := fb_free HPL2.out.fb
          have qA : W2.drew.cell? ⟨wr.heap.size, 1, none⟩ = some (.int .i64 (j : Int)) := zA
          have lq : wr.heap.size < W2.drew.heap.size := l8
          have lp : P < W2.drew.heap.size := lP2
          clear xP lP
          refine wp_tail_lock 7 (by kernel_rfl) (by kernel_rfl) ?_
          simp only [List.take_succ_cons, List.take_zero, List.drop_succ_cons, List.drop_zero]
          iterate 7 (first | ((first | (refine WT.skip rfl rfl rfl ?_) | (refine WT.skipU rfl rfl rfl ?_)); simp only [Act.put, List.setIfInBounds_toArray, List.set_cons_zero, List.set_cons_succ, List.set_nil]) | ((first | (apply WT.val; (exact rfl)) | (apply WT.valg; (exact rfl); (exact rfl); (exact rfl))); (simp [go_sem, qA, lq, lp, j0, j1, j2]; first | done | exact rfl); simp only [Act.put, List.setIfInBounds_toArray, List.set_cons_zero, List.set_cons_succ, List.set_nil]))
          refine WT.fin ?_
          go_wp2_with fail
          refine ⟨⟨i + 1, by omega, by push_cast; rfl, ?_, (HGOOD.out ⟨by omega, by omega, fun _ => by first | rfl | omega, fun h => by first | exact Or.inl rfl | exact Or.inr rfl | exact absurd h (by decide)⟩)⟩, by simp [intOf]; omega⟩
          show NewL _ _ _ _ _ _
          rw [HTK.out]
          exact ⟨updF wp (j) (some (wr.heap.size + 1)), ((PlAt.put56 (o := 82 + j) (by omega) HPL2.out (b := (5, (j : Int), false)) (j := j) (r := wr.heap.size + 1) (i0 := j) (Or.inl ⟨rfl, rfl⟩) rfl j2 ⟨by omega, l9, by omega⟩ zr).step (Below.refl _ _).drew).more (by simp) (Nat.le_refl _), (HBW2.out.setCell (Nat.le_refl _) _).drew⟩
      by_cases k6 : q = 6
      · subst k6
        by_cases a1 : A < 0
        · go_wp2_with fail
          all_goals exact bodyPost_ret (v := .tuple #[.pointer none, .int .i64 2]) (by simp only [results, Try.results5]; go_simp) rfl (Or.inl ⟨HBAD.out (by rintro ⟨o1, o2, o3, o4⟩; first | omega | (have := o4 rfl; omega) | (have := o3 rfl; omega)), rfl, by rw [hP]; exact bStepP HBW.out (by repeat' (first | exact Below.refl _ _ | apply bAlloc))⟩)
        by_cases a2 : A > 2
        · go_wp2_with fail
          all_goals exact bodyPost_ret (v := .tuple #[.pointer none, .int .i64 2]) (by simp only [results, Try.results5]; go_simp) rfl (Or.inl ⟨HBAD.out (by rintro ⟨o1, o2, o3, o4⟩; first | omega | (have := o4 rfl; omega) | (have := o3 rfl; omega)), rfl, by rw [hP]; exact bStepP HBW.out (by repeat' (first | exact Below.refl _ _ | apply bAlloc))⟩)
        obtain ⟨j, rfl⟩ : ∃ j : Nat, A = (j : Int) := ⟨A.toNat, by omega⟩
        have j2 : j < 3 := by omega
        have j1 : (j : Int) < 3 := by omega
        have j0 : (0 : Int) ≤ j := by omega
        cases B with
        | true =>
          have HB2 := Lib.hid (show Below wr.heap.size wr ((wr.alloc (Obj.cells #[Value.int IntKind.i64 6, Value.int IntKind.i64 (j : Int), Value.bool true] 79)).alloc (Obj.cells #[Value.bool true] 4)) from bAlloc bAl _)
          have zA : ((wr.alloc (Obj.cells #[Value.int IntKind.i64 6, Value.int IntKind.i64 (j : Int), Value.bool true] 79)).alloc (Obj.cells #[Value.bool true] 4)).cell? ⟨wr.heap.size, 1, none⟩ = some (.int .i64 (j : Int)) := cellA (blk_cell (blk_new wr _) rfl)
          have zr : ((wr.alloc (Obj.cells #[Value.int IntKind.i64 6, Value.int IntKind.i64 (j : Int), Value.bool true] 79)).alloc (Obj.cells #[Value.bool true] 4)).cell? ⟨wr.heap.size + 1, 0, none⟩ = some (.bool true) := by have h := blk_cell (o := 0) (v := .bool true) (blk_new (wr.alloc (Obj.cells #[Value.int IntKind.i64 6, Value.int IntKind.i64 (j : Int), Value.bool true] 79)) (Obj.cells #[Value.bool true] 4)) rfl; rw [show (wr.alloc (Obj.cells #[Value.int IntKind.i64 6, Value.int IntKind.i64 (j : Int), Value.bool true] 79)).heap.size = wr.heap.size + 1 by simp] at h; exact h
          have HZ := Lib.hid (show ((wr.alloc (Obj.cells #[Value.int IntKind.i64 6, Value.int IntKind.i64 (j : Int), Value.bool true] 79)).alloc (Obj.cells #[Value.bool true] 4)).heap.size = wr.heap.size + 2 by simp)
          have lP := HPL.out.hP.2.1
          go_wp2_with fail
          have HPL2 := Lib.hid ((HPL.out.step HB2.out).more (M' := ((wr.alloc (Obj.cells #[Value.int IntKind.i64 6, Value.int IntKind.i64 (j : Int), Value.bool true] 79)).alloc (Obj.cells #[Value.bool true] 4)).heap.size) (by rw [HZ.out]; omega) (Nat.le_refl _))
          have HBW2 := Lib.hid (bStepP HBW.out HB2.out)
          have lP2 := HPL2.out.lt
          have l8 : wr.heap.size < ((wr.alloc (Obj.cells #[Value.int IntKind.i64 6, Value.int IntKind.i64 (j : Int), Value.bool true] 79)).alloc (Obj.cells #[Value.bool true] 4)).heap.size := by rw [HZ.out]; omega
          have l9 : wr.heap.size + 1 < ((wr.alloc (Obj.cells #[Value.int IntKind.i64 6, Value.int IntKind.i64 (j : Int), Value.bool true] 79)).alloc (Obj.cells #[Value.bool true] 4)).heap.size := by rw [HZ.out]; omega
          generalize ((wr.alloc (Obj.cells #[Value.int IntKind.i64 6, Value.int IntKind.i64 (j : Int), Value.bool true] 79)).alloc (Obj.cells #[Value.bool true] 4)) = W2 at *
          have xP := HPL2.out.cell (show 85 + j < 88 by omega)
          have q1 : W2.drew.cell? ⟨P, 85 + j, none⟩ = some _ := xP
          have q2 : W2.drew.frozen? ⟨P, 85 + j, none⟩ = false := fb_free HPL2.out.fb
          have qA : W2.drew.cell? ⟨wr.heap.size, 1, none⟩ = some (.int .i64 (j : Int)) := zA
          have lq : wr.heap.size < W2.drew.heap.size := l8
          have lp : P < W2.drew.heap.size := lP2
          clear xP lP
          refine wp_tail_lock 7 (by kernel_rfl) (by kernel_rfl) ?_
          simp only [List.take_succ_cons, List.take_zero, List.drop_succ_cons, List.drop_zero]
          iterate 7 (first | ((first | (refine WT.skip rfl rfl rfl ?_) | (refine WT.skipU rfl rfl rfl ?_)); simp only [Act.put, List.setIfInBounds_toArray, List.set_cons_zero, List.set_cons_succ, List.set_nil]) | ((first | (apply WT.val; (exact rfl)) | (apply WT.valg; (exact rfl); (exact rfl); (exact rfl))); (simp [go_sem, qA, lq, lp, j0, j1, j2]; first | done | exact rfl); simp only [Act.put, List.setIfInBounds_toArray, List.set_cons_zero, List.set_cons_succ, List.set_nil]))
          refine WT.fin ?_
          go_wp2_with fail
          refine ⟨⟨i + 1, by omega, by push_cast; rfl, ?_, (HGOOD.out ⟨by omega, by omega, fun _ => by first | rfl | omega, fun h => by first | exact Or.inl rfl | exact Or.inr rfl | exact absurd h (by decide)⟩)⟩, by simp [intOf]; omega⟩
          show NewL _ _ _ _ _ _
          rw [HTK.out]
          exact ⟨updF wp (3 + j) (some (wr.heap.size + 1)), ((PlAt.put56 (o := 85 + j) (by omega) HPL2.out (b := (6, (j : Int), true)) (j := j) (r := wr.heap.size + 1) (i0 := 3 + j) (Or.inr ⟨rfl, rfl⟩) rfl j2 ⟨by omega, l9, by omega⟩ zr).step (Below.refl _ _).drew).more (by simp) (Nat.le_refl _), (HBW2.out.setCell (Nat.le_refl _) _).drew⟩
        | false =>
          have HB2 := Lib.hid (show Below wr.heap.size wr ((wr.alloc (Obj.cells #[Value.int IntKind.i64 6, Value.int IntKind.i64 (j : Int), Value.bool false] 79)).alloc (Obj.cells #[Value.bool false] 4)) from bAlloc bAl _)
          have zA : ((wr.alloc (Obj.cells #[Value.int IntKind.i64 6, Value.int IntKind.i64 (j : Int), Value.bool false] 79)).alloc (Obj.cells #[Value.bool false] 4)).cell? ⟨wr.heap.size, 1, none⟩ = some (.int .i64 (j : Int)) := cellA (blk_cell (blk_new wr _) rfl)
          have zr : ((wr.alloc (Obj.cells #[Value.int IntKind.i64 6, Value.int IntKind.i64 (j : Int), Value.bool false] 79)).alloc (Obj.cells #[Value.bool false] 4)).cell? ⟨wr.heap.size + 1, 0, none⟩ = some (.bool false) := by have h := blk_cell (o := 0) (v := .bool false) (blk_new (wr.alloc (Obj.cells #[Value.int IntKind.i64 6, Value.int IntKind.i64 (j : Int), Value.bool false] 79)) (Obj.cells #[Value.bool false] 4)) rfl; rw [show (wr.alloc (Obj.cells #[Value.int IntKind.i64 6, Value.int IntKind.i64 (j : Int), Value.bool false] 79)).heap.size = wr.heap.size + 1 by simp] at h; exact h
          have HZ := Lib.hid (show ((wr.alloc (Obj.cells #[Value.int IntKind.i64 6, Value.int IntKind.i64 (j : Int), Value.bool false] 79)).alloc (Obj.cells #[Value.bool false] 4)).heap.size = wr.heap.size + 2 by simp)
          have lP := HPL.out.hP.2.1
          go_wp2_with fail
          have HPL2 := Lib.hid ((HPL.out.step HB2.out).more (M' := ((wr.alloc (Obj.cells #[Value.int IntKind.i64 6, Value.int IntKind.i64 (j : Int), Value.bool false] 79)).alloc (Obj.cells #[Value.bool false] 4)).heap.size) (by rw [HZ.out]; omega) (Nat.le_refl _))
          have HBW2 := Lib.hid (bStepP HBW.out HB2.out)
          have lP2 := HPL2.out.lt
          have l8 : wr.heap.size < ((wr.alloc (Obj.cells #[Value.int IntKind.i64 6, Value.int IntKind.i64 (j : Int), Value.bool false] 79)).alloc (Obj.cells #[Value.bool false] 4)).heap.size := by rw [HZ.out]; omega
          have l9 : wr.heap.size + 1 < ((wr.alloc (Obj.cells #[Value.int IntKind.i64 6, Value.int IntKind.i64 (j : Int), Value.bool false] 79)).alloc (Obj.cells #[Value.bool false] 4)).heap.size := by rw [HZ.out]; omega
          generalize ((wr.alloc (Obj.cells #[Value.int IntKind.i64 6, Value.int IntKind.i64 (j : Int), Value.bool false] 79)).alloc (Obj.cells #[Value.bool false] 4)) = W2 at *
          have xP := HPL2.out.cell (show 85 + j < 88 by omega)
          have q1 : W2.drew.cell? ⟨P, 85 + j, none⟩ = some _ := xP
          have q2 : W2.drew.frozen? ⟨P, 85 + j, none⟩ = false := fb_free HPL2.out.fb
          have qA : W2.drew.cell? ⟨wr.heap.size, 1, none⟩ = some (.int .i64 (j : Int)) := zA
          have lq : wr.heap.size < W2.drew.heap.size := l8
          have lp : P < W2.drew.heap.size := lP2
          clear xP lP
          refine wp_tail_lock 7 (by kernel_rfl) (by kernel_rfl) ?_
          simp only [List.take_succ_cons, List.take_zero, List.drop_succ_cons, List.drop_zero]
          iterate 7 (first | ((first | (refine WT.skip rfl rfl rfl ?_) | (refine WT.skipU rfl rfl rfl ?_)); simp only [Act.put, List.setIfInBounds_toArray, List.set_cons_zero, List.set_cons_succ, List.set_nil]) | ((first | (apply WT.val; (exact rfl)) | (apply WT.valg; (exact rfl); (exact rfl); (exact rfl))); (simp [go_sem, qA, lq, lp, j0, j1, j2]; first | done | exact rfl); simp only [Act.put, List.setIfInBounds_toArray, List.set_cons_zero, List.set_cons_succ, List.set_nil]))
          refine WT.fin ?_
          go_wp2_with fail
          refine ⟨⟨i + 1, by omega, by push_cast; rfl, ?_, (HGOOD.out ⟨by omega, by omega, fun _ => by first | rfl | omega, fun h => by first | exact Or.inl rfl | exact Or.inr rfl | exact absurd h (by decide)⟩)⟩, by simp [intOf]; omega⟩
          show NewL _ _ _ _ _ _
          rw [HTK.out]
          exact ⟨updF wp (3 + j) (some (wr.heap.size + 1)), ((PlAt.put56 (o := 85 + j) (by omega) HPL2.out (b := (6, (j : Int), false)) (j := j) (r := wr.heap.size + 1) (i0 := 3 + j) (Or.inr ⟨rfl, rfl⟩) rfl j2 ⟨by omega, l9, by omega⟩ zr).step (Below.refl _ _).drew).more (by simp) (Nat.le_refl _), (HBW2.out.setCell (Nat.le_refl _) _).drew⟩
      by_cases a1 : A < 0
      · go_wp2_with fail
        all_goals exact bodyPost_ret (v := .tuple #[.pointer none, .int .i64 2]) (by simp only [results, Try.results5]; go_simp) rfl (Or.inl ⟨HBAD.out (by rintro ⟨o1, o2, o3, o4⟩; first | omega | (have := o4 rfl; omega) | (have := o3 rfl; omega)), rfl, by rw [hP]; exact bStepP HBW.out (by repeat' (first | exact Below.refl _ _ | apply bAlloc))⟩)
      by_cases a2 : A > 2
      · go_wp2_with fail
        all_goals exact bodyPost_ret (v := .tuple #[.pointer none, .int .i64 2]) (by simp only [results, Try.results5]; go_simp) rfl (Or.inl ⟨HBAD.out (by rintro ⟨o1, o2, o3, o4⟩; first | omega | (have := o4 rfl; omega) | (have := o3 rfl; omega)), rfl, by rw [hP]; exact bStepP HBW.out (by repeat' (first | exact Below.refl _ _ | apply bAlloc))⟩)
      cases B with
      | true =>
        go_wp2_with fail
        all_goals exact bodyPost_ret (v := .tuple #[.pointer none, .int .i64 2]) (by simp only [results, Try.results5]; go_simp) rfl (Or.inl ⟨HBAD.out (by rintro ⟨o1, o2, o3, o4⟩; first | omega | (have := o4 rfl; omega) | (have := o3 rfl; omega)), rfl, by rw [hP]; exact bStepP HBW.out (by repeat' (first | exact Below.refl _ _ | apply bAlloc))⟩)
      | false =>
        go_wp2_with fail
        all_goals exact bodyPost_ret (v := .tuple #[.pointer none, .int .i64 2]) (by simp only [results, Try.results5]; go_simp) rfl (Or.inl ⟨HBAD.out (by rintro ⟨o1, o2, o3, o4⟩; first | omega | (have := o4 rfl; omega) | (have := o3 rfl; omega)), rfl, by rw [hP]; exact bStepP HBW.out (by repeat' (first | exact Below.refl _ _ | apply bAlloc))⟩)
    · have c1 : ¬ (i : Int) < l.length := by omega
      obtain rfl : i = l.length := by omega
      clear hc
      go_wp2_with fail
      obtain ⟨wp, hpl, hbw⟩ := HS.out
      rw [List.take_length] at hpl
      have ho := HO.out
      rw [List.take_length] at ho
      subst hP
      exact bodyPost_ret (v := .tuple #[.pointer (some ⟨w.heap.size, 0, none⟩), .int .i64 0]) (by simp only [results, Try.results5]; go_simp) rfl (Or.inr ⟨ho, _, wp, rfl, hpl, hbw⟩)
end Go.Proofs.Ytladkknbkgomfaa
