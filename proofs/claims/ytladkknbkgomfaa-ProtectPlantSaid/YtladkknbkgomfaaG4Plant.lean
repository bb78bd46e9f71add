/-
  Plants: the program's Move.
-/
import Derived.Test.YtladkknbkgomfaaG3Plant
set_option linter.unusedSimpArgs false
set_option linter.unusedVariables false
namespace Go.Proofs.Ytladkknbkgomfaa
open Go.RowKit Mr
/-- An act's cells. -/
def actC (a : T3 × Bool) : List Value := [.bool a.1.1, .bool a.1.2.1, .bool a.1.2.2, .bool a.2]
def actV (a : T3 × Bool) : Value := .agg #[.bool a.1.1, .bool a.1.2.1, .bool a.1.2.2, .bool a.2]
/-- The region that calls the contactors' move. -/
structure M3 (w1 : World) (P B : Nat) (F F' : Nat → Value) (act : Array Value) (b0 : Bool) (v0 : Value) (W : World) : Prop where
  ps : PS w1 P (bif b0 then F' else F) W
  ac : W.heap[B]? = some (.cells act 41 (0, 0))
  v : b0 = true → v0 = .tuple #[]
section
variable {N M P B : Nat} {l : List Brk} {D : List T3} {lag : Nat} {sh : T3} {fi : Bool} {wp : Nat → Option Nat} {w w1 W : World} {F F' : Nat → Value} {act : Array Value} {v0 : Value}
theorem WireOk.keepP {r : Bool × Bool} {o : Option Nat} (h : WireOk N M P r w o) (hk : KeepX (fun k => k = P) w W) : WireOk N M P r W o := h.keep hk fun _ _ _ hn => hn
theorem PlAt.of_ps {D' : List T3} {sh' : T3} {fi' : Bool} (h : PlAt N M P l D lag sh fi wp w) (hp : PS w P (plF l D' lag sh' fi' wp) W) : PlAt N M P l D' lag sh' fi' wp W :=
  ⟨⟨h.hP.1, h.hP.2.1, Nat.le_trans h.hP.2.2 hp.kp.size⟩, hp.fb, fun q hq => (h.wi q hq).keepP hp.kp⟩
theorem M3.call (h : M3 w1 P B F F' act false v0 W) {w2 : World} (hp : PS W P F' w2) (hne : B ≠ P) : M3 w1 P B F F' act true (.tuple #[]) w2 :=
  ⟨⟨h.ps.kp.trans hp.kp fun _ _ c => c, hp.fb⟩, hp.kp.blk h.ac hne, fun _ => rfl⟩
end
set_option maxHeartbeats 4000000 in
set_option maxRecDepth 20000 in
theorem Move_any {N M P : Nat} {l : List Brk} {D : List T3} {lag : Nat} {sh : T3} {fi : Bool} {wp : Nat → Option Nat} {w : World} (h : PlAt N M P l D lag sh fi wp w) (hl : lag ≤ 20) (a : T3 × Bool) : Calls Try.prog 9 #[.pointer (some ⟨P, 0, none⟩), actV a] w fun e w' => e = .returned (.int .i64 0) ∧ PlAt N M P l (D ++ [a.1]) lag (moveT l (oldT D a.1 lag) sh) (fi || a.2) wp w' ∧ KeepX (fun k => k = P) w w' := by
  obtain ⟨w1, hw1⟩ : ∃ w1, w1 = w.alloc (.cells #[.bool a.1.1, .bool a.1.2.1, .bool a.1.2.2, .bool a.2] 41) := ⟨_, rfl⟩
  have HPL : Hid (PlAt N M P l D lag sh fi wp w1) := by rw [hw1]; exact h.step bAl
  have HAC : Hid (w1.heap[w.heap.size]? = some (.cells #[.bool a.1.1, .bool a.1.2.1, .bool a.1.2.2, .bool a.2] 41 (0, 0))) := by rw [hw1]; exact blk_new w _
  have HWB : Hid (Below w.heap.size w w1) := by rw [hw1]; exact bAl
  have HNE : Hid (w.heap.size ≠ P) := by have := h.lt; show _ ≠ _; omega
  have H := Lib.hid h
  have CV := Lib.hid (pvalid HPL.out)
  clear h
  unfold actV
  go_enter Try.func9, Try.ntmps9
  go_upto_region 3 with (first | (rw [← hw1]; go_at_call 23; refine CV.out.mono ?_; rintro e w2 ⟨rfl, hw⟩; have hw2 := hw.symm; clear hw; subst hw2) | (go_at_call 23; rw [← hw1]; refine CV.out.mono ?_; rintro e w2 ⟨rfl, hw⟩; have hw2 := hw.symm; clear hw; subst hw2))
  rw [← hw1]
  have HKX := Lib.hid (KeepX.of_below (S := fun k => k = P) HWB.out)
  clear hw1 CV HWB
  have S0 : Hid (PS w1 P (plF l D lag sh fi wp) w1) := ⟨KeepX.refl, HPL.out.fb⟩
  generalize hB : w.heap.size = B at *
  go_wp2_with fail
  refine region_all 6 8 25 [(5, 13)] [(none, []), (none, []), (none, []), (none, []), (none, []), (some 0, [])] [(8, (.pointer (some ⟨P, 0, none⟩))), (9, (.pointer (some ⟨P, 0, none⟩))), (10, (.pointer (some ⟨P, 2, none⟩))), (11, (.pointer (some ⟨B, 0, none⟩))), (12, (.agg #[.bool a.1.1, .bool a.1.2.1, .bool a.1.2.2]))] (fun bsE vsE W => M3 w1 P B (plF l D lag sh fi wp) (plF l (D ++ [a.1]) lag (moveT l (oldT D a.1 lag) sh) fi wp) #[.bool a.1.1, .bool a.1.2.1, .bool a.1.2.2, .bool a.2] (bsE.getD 0 false) ((vsE.getD 0 undef)) W) (by kernel_rfl) (by kernel_rfl) rfl rfl (by kernel_rfl) (by rfl) ?h0 ?each ?done
  case h0 =>
    intro vsE hlv
    obtain ⟨v0, vsE0, rfl, hlv0⟩ := len_one hlv
    obtain rfl := len_nil hlv0
    exact ⟨S0.out.step (Below.refl _ _).drew, HAC.out, (fun e => by cases e)⟩
  case each =>
    simp only [AllE]
    refine ⟨⟨8, (.pointer (some ⟨P, 0, none⟩)), rfl, by kernel_rfl, ?_⟩, ⟨9, (.pointer (some ⟨P, 0, none⟩)), rfl, by kernel_rfl, ?_⟩, ⟨10, (.pointer (some ⟨P, 2, none⟩)), rfl, by kernel_rfl, ?_⟩, ⟨11, (.pointer (some ⟨B, 0, none⟩)), rfl, by kernel_rfl, ?_⟩, ⟨12, (.agg #[.bool a.1.1, .bool a.1.2.1, .bool a.1.2.2]), rfl, by kernel_rfl, ?_⟩, Or.inl ⟨13, rfl, ?q1_5⟩, trivial⟩
    case q1_5 =>
      intro bsE vsE W hlb hlv hnd hbk h
      obtain ⟨b0, bsE0, rfl, hlb0⟩ := len_one hlb
      obtain ⟨v0, vsE0, rfl, hlv0⟩ := len_one hlv
      obtain rfl := len_nil hlb0
      obtain rfl := len_nil hlv0
      obtain rfl : b0 = false := hbk
      replace h : M3 w1 P B (plF l D lag sh fi wp) (plF l (D ++ [a.1]) lag (moveT l (oldT D a.1 lag) sh) fi wp) #[.bool a.1.1, .bool a.1.2.1, .bool a.1.2.2, .bool a.2] false (v0) W := h
      clear hnd
      have HST := Lib.hid h
      have hq := HPL.out.of_ps (W := W) h.ps
      intro K Q hK
      simp only [putE, updAll, Act.put, List.setIfInBounds_toArray, List.set_cons_zero, List.set_cons_succ, List.set_nil] at hK ⊢
      go_wp2_with (go_at_call 24; refine (cmove_any hq hl a.1).mono ?_; rintro en w9 ⟨rfl, h9⟩)
      all_goals (have hm := h.call h9 HNE.out)
      all_goals (first | exact hK _ _ hm | exact hm)
    all_goals
      intro bsE vsE W hlb hlv hnd h
      obtain ⟨b0, bsE0, rfl, hlb0⟩ := len_one hlb
      obtain ⟨v0, vsE0, rfl, hlv0⟩ := len_one hlv
      obtain rfl := len_nil hlb0
      obtain rfl := len_nil hlv0
      replace h : M3 w1 P B (plF l D lag sh fi wp) (plF l (D ++ [a.1]) lag (moveT l (oldT D a.1 lag) sh) fi wp) #[.bool a.1.1, .bool a.1.2.1, .bool a.1.2.2, .bool a.2] b0 (v0) W := h
      clear hnd
      have HST := Lib.hid h
      have lP := blk_lt h.ps.fb; have lB := blk_lt h.ac; have c0 := blk_cell (o := 0) h.ac rfl; have c1 := blk_cell (o := 1) h.ac rfl; have c2 := blk_cell (o := 2) h.ac rfl
      intro K Q hK
      simp only [putE, updAll, Act.put, List.setIfInBounds_toArray, List.set_cons_zero, List.set_cons_succ, List.set_nil] at hK ⊢
      go_wp2_with (fail)
      all_goals (first | exact hK _ h | exact h)
  case done =>
    intro vsE W hlv h
    obtain ⟨v0, vsE0, rfl, hlv0⟩ := len_one hlv
    obtain rfl := len_nil hlv0
    replace h : M3 w1 P B (plF l D lag sh fi wp) (plF l (D ++ [a.1]) lag (moveT l (oldT D a.1 lag) sh) fi wp) #[.bool a.1.1, .bool a.1.2.1, .bool a.1.2.2, .bool a.2] true (v0) W := h
    have HST := Lib.hid h
    have HS := Lib.hid h
    clear h HST
    simp only [putE, updAll, Act.put, List.setIfInBounds_toArray, List.set_cons_zero, List.set_cons_succ, List.set_nil]
    obtain rfl := HS.out.v rfl
    have HT : Hid (PS w1 P (plF l (D ++ [a.1]) lag (moveT l (oldT D a.1 lag) sh) fi wp) W) := HS.out.ps
    have HA := Lib.hid HS.out.ac
    clear HS S0 hlv hlv0
    have lP := blk_lt HT.out.fb
    have lB := blk_lt HA.out
    have c3 := blk_cell (o := 3) HA.out rfl
    have x1 : W.cell? ⟨P, 1, none⟩ = some (.bool fi) := HT.out.cell (show 1 < 88 by decide)
    have f1 : W.frozen? ⟨P, 1, none⟩ = false := fb_free HT.out.fb
    obtain ⟨⟨a1, a2, a3⟩, fr⟩ := a
    dsimp only at *
    cases fi with
    | true =>
      go_wp2_with fail
      have HF := (HT.out.set 1 (.bool true)).ext fun k _ => plF_fi
      have HG : PS w P (plF l (D ++ [(a1, a2, a3)]) lag (moveT l (oldT D (a1, a2, a3) lag) sh) true wp) _ := ⟨HKX.out.trans HF.kp fun _ _ c => c, HF.fb⟩
      exact bodyPost_ret (v := .int .i64 0) (by simp only [results, Try.results9]; go_simp) rfl ⟨rfl, H.out.of_ps HG, HG.kp⟩
    | false =>
      go_wp2_with fail
      have HF := (HT.out.set 1 (.bool fr)).ext fun k _ => plF_fi
      have HG : PS w P (plF l (D ++ [(a1, a2, a3)]) lag (moveT l (oldT D (a1, a2, a3) lag) sh) fr wp) _ := ⟨HKX.out.trans HF.kp fun _ _ c => c, HF.fb⟩
      exact bodyPost_ret (v := .int .i64 0) (by simp only [results, Try.results9]; go_simp) rfl ⟨rfl, H.out.of_ps HG, HG.kp⟩
end Go.Proofs.Ytladkknbkgomfaa
