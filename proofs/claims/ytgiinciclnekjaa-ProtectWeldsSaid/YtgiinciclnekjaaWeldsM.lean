/-
  ProtectWelds: if a contactor of the path does not open, and there is current, the pyro fuse is fired when it has had its time; no sooner, and the path is open behind it: for every input the call returns true, and nothing that was in memory changes. No condition.
-/
import Derived.Test.YtgiinciclnekjaaG54Welds
import Derived.Test.YtgiinciclnekjaaRows
import Derived.ProofKit
import Derived.OpenShut
import Derived.KernelRfl
set_option linter.unusedSimpArgs false
set_option linter.unusedVariables false
namespace Go.Proofs.Ytgiinciclnekjaa
open Sx Go.RowKit
section
variable {K A : Nat} {x : Nat → Int} {lag : Int} {T : Nat → Value} {N n o L k : Nat}
/-- Phases. -/
theorem w_ph2 (H : WdH K A x lag T N n o L) {k : Nat} (h2 : 2 ≤ k) (hk : k ≤ n) : phW K A x lag T k = 2 := by
  have := (weld_closed (weld_s H) (k - 2) (by omega)).1 k h2 (by omega)
  exact this
theorem w_ph3 (H : WdH K A x lag T N n o L) (hNo : n + o < N) {k : Nat} (h2 : n < k) (hk : k ≤ n + o) : phW K A x lag T k = 3 ∧ ciW K A x lag T k 0 = 0 ∧ ciW K A x lag T k 15 = ((k - n - 1 : Nat) : Int) := by
  have := weld_opening (weld_s H) hNo (k - n - 1) (by omega)
  rw [show n + (k - n - 1 + 1) = k by omega] at this
  exact this
theorem w_ph1 (H : WdH K A x lag T N n o L) : phW K A x lag T 1 = 1 := (weld_s H).s0.1
/-- A contactor that is welded and was shut stays so. -/
theorem shu_weld (H : WdH K A x lag T N n o L) (hNo : n + o < N) {i : Nat} (hi : i < 2) (hw : weB K A i = true) : ∀ j, j ≤ N → L + 2 ≤ j → shu K A false (nOf (gsL (gW x))) lag T j i = true := by
  have hlo := H.hLo
  have hN := H.hN
  have h3 := H.h3
  have hL := H.hL
  intro j
  induction j with
  | zero => intro _ h; omega
  | succ j ih =>
    intro hj h
    rcases Nat.eq_or_lt_of_le h with e | e
    · refine shu_on H (by omega) (by omega) ?_
      obtain ⟨d0, d1, -, -⟩ := drvW H (show j - L < N by omega)
      have e2 := w_ph2 H (k := j - L + 1) (by omega) (by omega)
      rw [e2] at d0 d1
      rcases (show i = 0 ∨ i = 1 by omega) with e | e
      · rw [e]; exact d0
      · rw [e]; exact d1
    · rw [shu_next K A false _ lag T ⟨by omega, by omega⟩ (by omega), (w_ch H.hK i).2.2.2.2, hw, ih (by omega) (by omega)]
      cases old K A false (nOf (gsL (gW x))) lag T j i <;> rfl
/-- One that is not welded is open when nothing was driven a lag ago. -/
theorem shu_off (H : WdH K A x lag T N n o L) {i : Nat} (hi : i < 3) (hw : weB K A i = false) {j : Nat} (hj : L ≤ j) (hjN : j < N) (hd : phW K A x lag T (j - L + 1) ≠ 1 ∧ phW K A x lag T (j - L + 1) ≠ 2) : shu K A false (nOf (gsL (gW x))) lag T (j + 1) i = false := by
  have hlo := H.hLo
  have hL := H.hL
  obtain ⟨d0, d1, d2, -⟩ := drvW H (show j - L < N by omega)
  obtain ⟨z0, z1, z2⟩ := dr_off hd
  have e : drv K A false (nOf (gsL (gW x))) lag T (j - L) i = false := by
    rcases (show i = 0 ∨ i = 1 ∨ i = 2 by omega) with e | e | e
    · rw [e, d0, z0]
    · rw [e, d1, z1]
    · rw [e, d2, z2]
  rw [shu_next K A false _ lag T ⟨by omega, by omega⟩ hi, (w_ch H.hK i).2.2.2.2, hw, old_lag K A false _ lag T L hL (by omega) hj hi, e]; rfl
end
end Go.Proofs.Ytgiinciclnekjaa

/-
  The law ProtectWelds: the end of opening.
-/
set_option linter.unusedSimpArgs false
set_option linter.unusedVariables false
namespace Go.Proofs.Ytgiinciclnekjaa
open Sx Go.RowKit
theorem clB_yes {h : Nat → Bool} (hh : h 24 = true ∨ h 25 = true) : clB h = true := by
  unfold clB
  rcases hh with e | e
  · rw [e]; rfl
  · rw [e]; cases h 24 <;> rfl
section
variable {K A : Nat} {x : Nat → Int} {lag : Int} {T : Nat → Value} {N n o L k : Nat}
theorem w_clB (H : WdH K A x lag T N n o L) (hNo : n + o < N) (h2 : weB K A 2 = false) : clB (hbW K A x lag T (n + o)) = (weB K A 0 || weB K A 1) := by
  have hlo := H.hLo
  have hN := H.hN
  have h3 := H.h3
  cases w0 : weB K A 0 with
  | true => exact clB_yes (Or.inl ((w_back H.hK (i := 0) (by omega)).trans (shu_weld H hNo (by omega) w0 (n + o) (by omega) (by omega))))
  | false =>
    cases w1 : weB K A 1 with
    | true => exact clB_yes (Or.inr ((w_back H.hK (i := 1) (by omega)).trans (shu_weld H hNo (by omega) w1 (n + o) (by omega) (by omega))))
    | false =>
      refine clB_no fun i hi => ?_
      have hw : weB K A i = false := by
        rcases (show i = 0 ∨ i = 1 ∨ i = 2 by omega) with e | e | e
        · rw [e]; exact w0
        · rw [e]; exact w1
        · rw [e]; exact h2
      have e3 := (w_ph3 H hNo (k := n + o - 1 - L + 1) (by omega) (by omega)).1
      have := shu_off H hi hw (j := n + o - 1) (by omega) (by omega) (by rw [e3]; exact three12)
      rw [show n + o - 1 + 1 = n + o by omega] at this
      exact (w_back H.hK hi).trans this
/-- The phase behind the end of opening. -/
theorem w_end (H : WdH K A x lag T N n o L) (hNo : n + o < N) (h2 : weB K A 2 = false) : phW K A x lag T (n + o + 1) = (bif (weB K A 0 || weB K A 1) then (bif (bif decide (wN x (n + o : Nat) 2 > 2000) then true else decide (wN x (n + o : Nat) 2 < -2000)) then 5 else 4) else 0) := by
  have hlo := H.hLo
  have hN := H.hN
  have h3 := H.h3
  have hOg : gX x 20 = o := (gX_at (by omega)).trans H.ho
  obtain ⟨e1, e2, e3⟩ := w_ph3 H hNo (k := n + o) (by omega) (Nat.le_refl _)
  have pn := phW_next (K := K) (A := A) (x := x) (lag := lag) (T := T) (n + o)
  rw [e1] at pn
  have lo : loB (gX x) (ciW K A x lag T (n + o)) = false := by
    unfold loB
    rw [hOg, e3, w64 (by omega)]
    exact decide_eq_false (by omega)
  rw [pn, weld3 _ _ _ _ _ (w_link H.hT (by omega)).1 (w_cW H (by omega) e2) lo, w_clB H hNo h2, w_cu H.hK H.hT (by omega) (w_marks H (n + o) (by omega))]
end
end Go.Proofs.Ytgiinciclnekjaa

/-
  The law ProtectWelds: the moments in plain numbers.
-/
set_option linter.unusedSimpArgs false
set_option linter.unusedVariables false
namespace Go.Proofs.Ytgiinciclnekjaa
open Sx Go.RowKit
section
variable {K A : Nat} {x : Nat → Int} {lag : Int} {T : Nat → Value} {N n o L k : Nat}
/-- Whether there is current behind the wish to open. -/
def flW (x : Nat → Int) : Bool := bif decide ((IntKind.i64.wrap (x 4)).tmod 100001 > 2000) then true else decide ((IntKind.i64.wrap (x 4)).tmod 100001 < -2000)
theorem w_cur2 (H : WdH K A x lag T N n o L) {k : Nat} (hk : n ≤ k) : wN x k 2 = (IntKind.i64.wrap (x 4)).tmod 100001 := by
  show (bif decide ((k : Int) ≥ nW x) then (IntKind.i64.wrap (x 4)).tmod 100001 else 10000) = _
  rw [H.hn, decide_eq_true (show (k : Int) ≥ (n : Int) by omega)]; rfl
theorem w_endF (H : WdH K A x lag T N n o L) (hNo : n + o < N) (h2 : weB K A 2 = false) : phW K A x lag T (n + o + 1) = (bif (weB K A 0 || weB K A 1) then (bif flW x then 5 else 4) else 0) := by
  rw [w_end H hNo h2, w_cur2 H (by omega)]; rfl
/-- Nothing is fired ahead of the end. -/
theorem w_nofire (H : WdH K A x lag T N n o L) (hNo : n + o < N) : ∀ r, r < n + o → drv K A false (nOf (gsL (gW x))) lag T r 3 = false := by
  intro r hr
  have hN := H.hN
  have hp : phW K A x lag T (r + 1) = 1 ∨ phW K A x lag T (r + 1) = 2 ∨ phW K A x lag T (r + 1) = 3 := by
    by_cases h0 : r = 0
    · subst h0; exact Or.inl (w_ph1 H)
    · by_cases h1 : r + 1 ≤ n
      · exact Or.inr (Or.inl (w_ph2 H (by omega) h1))
      · exact Or.inr (Or.inr (w_ph3 H hNo (by omega) (by omega)).1)
  obtain ⟨-, -, -, d⟩ := drvW H (show r < N by omega)
  rw [d]
  rcases hp with e | e | e <;> rw [e] <;> rfl
theorem w_fir (H : WdH K A x lag T N n o L) (hNo : n + o < N) : ∀ j, j ≤ n + o → fir K A false (nOf (gsL (gW x))) lag T j = false := by
  intro j
  induction j with
  | zero => intro _; rfl
  | succ j ih => intro hj; rw [fir_next, ih (by omega), w_nofire H hNo j (by omega)]; rfl
theorem w_off (H : WdH K A x lag T N n o L) (hNo : n + o < N) (h2 : weB K A 2 = false) {i : Nat} (hi : i < 3) (hw : weB K A i = false) : shu K A false (nOf (gsL (gW x))) lag T (n + o + 1) i = false := by
  have hlo := H.hLo
  have hN := H.hN
  refine shu_off H hi hw (j := n + o) (by omega) (by omega) ?_
  by_cases h0 : L = 0
  · subst h0
    rw [show n + o - 0 + 1 = n + o + 1 by omega, w_endF H hNo h2]
    cases (weB K A 0 || weB K A 1) <;> cases flW x <;> exact ⟨by decide, by decide⟩
  · rw [(w_ph3 H hNo (k := n + o - L + 1) (by omega) (by omega)).1]; exact three12
theorem w_path (H : WdH K A x lag T N n o L) (hNo : n + o < N) (h2 : weB K A 2 = false) (hop : weB K A 0 = false ∨ weB K A 1 = false ∨ flW x = true) : pQ K A false (nOf (gsL (gW x))) lag T (pN K A false (nOf (gsL (gW x))) lag T (n + o)) = false := by
  have hN := H.hN
  rw [pQ_shu]
  cases w1 : weB K A 1 with
  | false => rw [w_off H hNo h2 (i := 1) (by omega) w1]; cases fir K A false (nOf (gsL (gW x))) lag T (n + o + 1) <;> rfl
  | true =>
    cases w0 : weB K A 0 with
    | false => rw [w_off H hNo h2 (i := 0) (by omega) w0, w_off H hNo h2 (i := 2) (by omega) h2]; cases fir K A false (nOf (gsL (gW x))) lag T (n + o + 1) <;> cases shu K A false (nOf (gsL (gW x))) lag T (n + o + 1) 1 <;> rfl
    | true =>
      have hf : flW x = true := by
        rcases hop with h | h | h
        · rw [w0] at h; exact Bool.noConfusion h
        · rw [w1] at h; exact Bool.noConfusion h
        · exact h
      obtain ⟨-, -, -, d⟩ := drvW H (show n + o < N by omega)
      rw [w_endF H hNo h2, w0, w1, hf] at d
      rw [fir_next, d]
      cases fir K A false (nOf (gsL (gW x))) lag T (n + o) <;> rfl
end
end Go.Proofs.Ytgiinciclnekjaa

/-
  The law ProtectWelds: joined.
-/
set_option linter.unusedSimpArgs false
set_option linter.unusedVariables false
namespace Go.Proofs.Ytgiinciclnekjaa
open Sx Go.RowKit
section
variable {p m : Bool} {x : Nat → Int}
theorem wd_A (p m : Bool) (x : Nat → Int) (v : FVal) : wdA1 p m x v = wdA1X x v := by
  cases p <;> cases m
  · exact wd_Aff x v
  · exact wd_Aft x v
  · exact wd_Atf x v
  · exact wd_Att x v
theorem mm_ne (hx : WdOk x) : (mm false 6 (oW x) != 0) = true := by
  have h1 := hx.a 1 (by omega)
  have eo : oW x = 1 + x 1 % 8 := by
    unfold oW
    rw [w64 (y := x 1) (by omega), Int.tmod_eq_emod_of_nonneg h1.1, w64 (by omega)]
  have em : mm false 6 (oW x) = if oW x < 6 then oW x else 6 := by unfold mm; rfl
  have : mm false 6 (oW x) ≠ 0 := by rw [em]; split <;> omega
  simpa using this
theorem wdT_eq : wdT p m x = evS tbl wr5 caC wdF.ntmps 300 [0, 2] 300 [.code (cdOf 13)] .normal (wdE p m x) := by unfold wdT; rfl
theorem wdR1_eq (v : FVal) : wdR1 p m x v = evC tbl wr5 caC wdF.ntmps [] 300 (wdS p m x).body (wdI1 p m x v) := by unfold wdR1; rfl
theorem wdR_eq (v : FVal) : wdR p m x v = evC tbl wr5 caC wdF.ntmps [] 300 (wdS p m x).body (wdI p m x v) := by unfold wdR; rfl
theorem wdT2_eq (v : FVal) : wdT2 p m x v = evS tbl wr5 caC wdF.ntmps 300 [0, 2] 300 (wdK p m x) .normal (wdI p m x v) := by unfold wdT2; rfl
theorem wdR2_eq (v u : FVal) : wdR2 p m x v u = evC tbl wr5 caC wdF.ntmps [] 300 (wdS2 p m x v).body (wdI2 p m x v u) := by unfold wdR2; rfl
theorem wdX_eq (v u : FVal) : wdX p m x v u = evS tbl wr5 caC wdF.ntmps 300 [0, 2] 300 (wdK2 p m x v) .normal (wdI2 p m x v u) := by unfold wdX; rfl
/-- What holds behind round k of the loop that makes the truths. -/
structure WtInv (x : Nat → Int) (t : Nat) (v : FVal) (k : Nat) : Prop where
  hi : v.i 0 = k
  hle : k ≤ t
  hn : v.n 1 = k
  hm : v.m 1 = k * 31
  hf : ∀ o, o < k * 31 → v.f 1 o = WV x o
structure WtEnd (x : Nat → Int) (t : Nat) (v : FVal) : Prop where
  hn : v.n 1 = t
  hm : v.m 1 = t * 31
  hf : ∀ o, o < t * 31 → v.f 1 o = WV x o
theorem wt_next {t : Nat} {v u : FVal} {k : Nat} (hi : WtInv x t v k) (hk : k < t) (h80 : t ≤ 80) (h0 : u.i 0 = IntKind.i64.wrap (v.i 0 + 1)) (hn : u.n 1 = v.n 1 + 1) (hm : u.m 1 = (v.n 1 + 1) * 31) (hf : u.f 1 = cutF ((v.n 1 + 1) * 31) (appF (v.n 1 * 31) (v.f 1) (wL x (v.i 0)))) : WtInv x t u (k + 1) := by
  have hii := hi.hi
  have hnn := hi.hn
  refine ⟨?_, hk, by rw [hn, hnn], by rw [hm, hnn], fun o ho => ?_⟩
  · rw [h0, hii, w64 (by omega)]; omega
  · rw [hf, hnn, cut_lt ho, hii]
    by_cases ho2 : o < k * 31
    · rw [appF_lt ho2]; exact hi.hf o ho2
    · rw [appF_ge (by omega)]
      unfold WV
      rw [show o / 31 = k by omega, show o % 31 = o - k * 31 by omega]
theorem wt_first {t : Nat} {v u : FVal} (hi : v.i 0 = (0 : Nat)) (hk : 0 < t) (h0 : u.i 0 = IntKind.i64.wrap (v.i 0 + 1)) (hn : u.n 1 = 1) (hm : u.m 1 = 31) {g : Nat → Value} (hf : u.f 1 = cutF 31 g) (hg : (List.range 31).map g = wL x (v.i 0)) : WtInv x t u 1 := by
  refine ⟨?_, hk, hn, hm, fun o ho => ?_⟩
  · rw [h0, hi]; rfl
  · have ho' : o < 31 := by omega
    rw [hf, cut_lt ho']
    have h5 : ((List.range 31).map g)[o]? = some (g o) := by rw [List.getElem?_map, List.getElem?_range ho']; rfl
    rw [hg, hi] at h5
    unfold WV
    rw [show o / 31 = 0 by omega, show o % 31 = o by omega, h5]; rfl
/-- Up to the second loop. -/
theorem wd_up (hx : WdOk x) {t : Nat} (ht : tW x = t) (h0 : 0 < t) (h80 : t ≤ 80) {Φ : SLeaf → Prop} (h : ∀ v, WtEnd x t v → SegTo Try.prog wdF.ntmps (wdI p m x v) (wdK p m x) .normal Φ) :
    SegTo Try.prog wdF.ntmps (wdE p m x) [.code (cdOf 13)] .normal Φ := by
  have hA := fun v => wd_A p m x v
  have hD : ∀ c ∈ [mm false 6 (oW x) != 0], c = true := fun c hc => by
    obtain rfl := List.mem_singleton.1 hc
    exact mm_ne hx
  unfold wdA1 wdA1X at hA
  simp only [Prod.mk.injEq] at hA
  have hUp := fun v => (hA v).1
  have hGo1 := fun v => (hA v).2.1
  have hGo := fun v => (hA v).2.2.1
  have hOut := fun v => (hA v).2.2.2
  clear hA
  obtain ⟨cs, y, hw, hg⟩ := selW_map (hUp (rvV wdD1 (wdS p m x).st))
  simp only [Prod.mk.injEq] at hg
  obtain ⟨k1, k2, k3, k4, -, -, k7⟩ := hg
  have hat := selW_G hw (by rw [k1]; exact hD)
  obtain ⟨S, hS⟩ := Option.isSome_iff_exists.1 k2
  have hSe : wdS p m x = S := by unfold wdS; rw [hw]; simp only [Option.map_some, Option.bind_some, hS, Option.getD_some]
  have hx := stpOf_at hS
  rw [← hSe, k3] at hx
  have hK : (wdS p m x).rest = wdK p m x := by unfold wdK; rfl
  rw [hK] at hx
  refine (caC_seg wdT_eq hat).then_ hx ?_
  refine seg_block ?_
  have fam1 : ∀ v, (wdS p m x).st.apps (famW v 0 wdD1) = some (wdI1 p m x v) := fun v => by
    obtain ⟨cs, y, hw, hg⟩ := selW_map (hUp v)
    simp only [Prod.mk.injEq] at hg
    obtain ⟨I, hI⟩ := Option.isSome_iff_exists.1 hg.2.2.2.2.1
    unfold wdI1
    rw [hI, Option.getD_some]
  have fam : ∀ v, (wdS p m x).st.apps (famW v 0 wdD) = some (wdI p m x v) := fun v => by
    obtain ⟨cs, y, hw, hg⟩ := selW_map (hUp v)
    simp only [Prod.mk.injEq] at hg
    obtain ⟨I, hI⟩ := Option.isSome_iff_exists.1 hg.2.2.2.2.2.1
    unfold wdI
    rw [hI, Option.getD_some]
  have hz0 : (rvV wdD1 (wdS p m x).st).i 0 = (0 : Nat) := by rw [rvV_i, k7]; rfl
  refine SegTo.each (I := wdI p m x) (F := fun v => WtEnd x t v) (loop_peel (k := 0) (rest := wdK p m x) (body := (wdS p m x).body) wdD1 wdD (fun p hp => List.mem_append_left _ hp) (wdI1 p m x) (wdI p m x) fam1 fam k4 (fun v => ∃ N, 0 < N ∧ WtInv x t v N) _ (fun v => ((t : Int) - v.i 0).toNat) ?_ (fun v hv => ?_)) (fun v hv => ?_)
  · obtain ⟨cs, y, hw, hg⟩ := wayR_map (hGo1 (rvV wdD1 (wdS p m x).st))
    obtain ⟨w1, w2, w3⟩ := wayR_at hw
    simp only [Option.some.injEq, Prod.mk.injEq] at hg
    obtain ⟨g1, g2, g3⟩ := hg
    obtain ⟨r, hr, hr2⟩ := Option.map_eq_some_iff.1 g3
    simp only [Prod.mk.injEq] at hr2
    obtain ⟨r1, r2, r3⟩ := hr2
    obtain ⟨s1, s2⟩ := seg_evC tbl_ok tbl_any caC_ok (wdR1_eq (rvV wdD1 (wdS p m x).st)) (w1 (by rw [g1]; intro c hc; obtain rfl := List.mem_singleton.1 hc; rw [hz0, ht]; exact decide_eq_true (by omega)))
    obtain ⟨q1, q2, q3⟩ := rv_row hr
    exact ⟨y, s1, s2, w2, w3, 1, by omega, wt_first hz0 h0 g2 (q1.trans r1) (q2.trans r2) (by rw [q3, r2]) r3⟩
  · obtain ⟨k, hk0, hi⟩ := hv
    have hii := hi.hi
    by_cases hk : k < t
    · obtain ⟨cs, y, hw, hg⟩ := wayR_map (hGo v)
      obtain ⟨w1, w2, w3⟩ := wayR_at hw
      simp only [Option.some.injEq, Prod.mk.injEq] at hg
      obtain ⟨g1, g2, g3⟩ := hg
      obtain ⟨r, hr, hr2⟩ := Option.map_eq_some_iff.1 g3
      simp only [Prod.mk.injEq] at hr2
      obtain ⟨r1, r2, r3⟩ := hr2
      obtain ⟨s1, s2⟩ := seg_evC tbl_ok tbl_any caC_ok (wdR_eq v) (w1 (by
        rw [g1]
        intro c hc
        rcases List.mem_append.1 hc with hc | hc
        · obtain rfl := List.mem_singleton.1 hc
          rw [hii, ht]; exact decide_eq_true (by omega)
        · unfold lwC2 at hc
          rw [hi.hn, hi.hm] at hc
          simp only [List.mem_cons, List.not_mem_nil, or_false] at hc
          rcases hc with rfl | rfl
          · exact decide_eq_true (Nat.le_refl _)
          · exact decide_eq_true ⟨by omega, by omega⟩))
      obtain ⟨q1, q2, q3⟩ := rv_row hr
      have hnx := wt_next hi hk h80 (u := rvV wdD y) g2 (q1.trans r1) (q2.trans r2) (by rw [q3, r2, r3])
      have := hnx.hi
      exact ⟨.normal, y, s1, s2, w2, w3, Or.inl ⟨rfl, ⟨k + 1, by omega, hnx⟩, by omega⟩⟩
    · obtain ⟨cs, y, hw, hg⟩ := wayR_map (hOut v)
      obtain ⟨w1, w2, w3⟩ := wayR_at hw
      simp only [Prod.mk.injEq] at hg
      obtain ⟨g1, g8⟩ := hg
      obtain ⟨r, hr, hr2⟩ := Option.map_eq_some_iff.1 g8
      simp only [Prod.mk.injEq] at hr2
      obtain ⟨r1, r2, r3⟩ := hr2
      obtain ⟨s1, s2⟩ := seg_evC tbl_ok tbl_any caC_ok (wdR_eq v) (w1 (by
        rw [g1]
        intro c hc
        simp only [List.mem_cons, List.not_mem_nil, or_false] at hc
        rw [hc, ht, decide_eq_false (by omega)]; rfl))
      obtain ⟨q1, q2, q3⟩ := rv_row hr
      have hle := hi.hle
      obtain rfl : k = t := by omega
      refine ⟨.exit 0, y, s1, s2, w2, w3, Or.inr ⟨rfl, ⟨by rw [q1, r1, hi.hn], by rw [q2, r2, hi.hm], fun o ho => ?_⟩⟩⟩
      rw [q3, r2, hi.hm, r3, cut_lt ho]
      exact hi.hf o ho
  · exact h v hv
end
end Go.Proofs.Ytgiinciclnekjaa

/-
  The law ProtectWelds: behind Play.
-/
set_option linter.unusedSimpArgs false
set_option linter.unusedVariables false
namespace Go.Proofs.Ytgiinciclnekjaa
open Sx Go.RowKit
section
variable {p m : Bool} {x : Nat → Int} {K A : Nat} {v : FVal} {n o L t : Nat}
theorem mw_at (K A : Nat) (x : Nat → Int) (v : FVal) {k : Nat} {i : Int} (hi : i = k) {q : Nat} (hq : q < 10) : mwF K A x v i q = ((pM K A false (nOf (gsL (gW x))) (lW x) (v.f 1) (pN K A false (nOf (gsL (gW x))) (lW x) (v.f 1) k))[q]?).getD undef := by
  subst hi
  unfold mwF
  rw [show ((k : Int)).toNat = k from rfl]
  exact mo_at _ _ _ hq
theorem mw0 (K A : Nat) (x : Nat → Int) (v : FVal) {k : Nat} {i : Int} (hi : i = k) : mwF K A x v i 0 = .int .i64 (phW K A x (lW x) (v.f 1) (k + 1)) := by rw [mw_at K A x v hi (by omega)]; rfl
theorem mw5 (K A : Nat) (x : Nat → Int) (v : FVal) {k : Nat} {i : Int} (hi : i = k) : mwF K A x v i 5 = .bool (drv K A false (nOf (gsL (gW x))) (lW x) (v.f 1) k 3) := by rw [mw_at K A x v hi (by omega)]; rfl
theorem mw9 (K A : Nat) (x : Nat → Int) (v : FVal) {k : Nat} {i : Int} (hi : i = k) : mwF K A x v i 9 = .bool (pQ K A false (nOf (gsL (gW x))) (lW x) (v.f 1) (pN K A false (nOf (gsL (gW x))) (lW x) (v.f 1) k)) := by rw [mw_at K A x v hi (by omega)]; rfl
/-- The counts of a run. -/
structure WdC (x : Nat → Int) (n o L t : Nat) : Prop where
  hn : nW x = n
  ho : oW x = o
  hl : lW x = L
  ht : tW x = t
  h3 : 3 ≤ n ∧ n ≤ 17
  hLo : L < o ∧ o ≤ 8
  hL7 : L ≤ 7
  hN : n + o < t ∧ t ≤ 80
theorem cu_eq (C : WdC x n o L t) (hv : WtEnd x t v) : cuI x v = (IntKind.i64.wrap (x 4)).tmod 100001 := by
  have hN := C.hN
  unfold cuI
  rw [C.hn, show ((n : Int)).toNat = n from rfl, Nat.zero_add, wrow_num hv.hf (show n < t by omega) (j := 2) (by omega) (by omega) (by omega)]
  show (bif decide ((n : Int) ≥ nW x) then (IntKind.i64.wrap (x 4)).tmod 100001 else 10000) = _
  rw [C.hn, decide_eq_true (show (n : Int) ≥ (n : Int) from Int.le_refl _)]; rfl
theorem wd_in (hv : WtEnd x t v) {k : Nat} {i : Int} (hi : i = k) (hk : k < t) : inW v i = true ∧ ∀ q, q < 10 → muW v i q = true := by
  unfold inW muW
  rw [hi, hv.hn, show ((k : Int)).toNat = k from rfl]
  exact ⟨decide_eq_true ⟨by omega, by omega⟩, fun q hq => decide_eq_true (by omega)⟩
theorem phD_ok (hv : WtEnd x t v) {k : Nat} {i : Int} (hi : i = k) (hk : k < t) : ∀ d ∈ phD K A x v i, d = true := fun d hd => by
  have w := wd_in hv hi hk
  unfold phD at hd
  simp only [List.mem_cons, List.not_mem_nil, or_false] at hd
  rcases hd with rfl | rfl | rfl
  · exact w.1
  · exact w.2 0 (by omega)
  · rw [mw0 K A x v hi]; rfl
theorem boD_ok (hv : WtEnd x t v) {k : Nat} {i : Int} (hi : i = k) (hk : k < t) {q : Nat} (hq : q = 5 ∨ q = 9) : ∀ d ∈ boD K A x v i q, d = true := fun d hd => by
  have w := wd_in hv hi hk
  unfold boD at hd
  simp only [List.mem_cons, List.not_mem_nil, or_false] at hd
  rcases hd with rfl | rfl | rfl
  · exact w.1
  · exact w.2 q (by omega)
  · rcases hq with rfl | rfl
    · rw [mw5 K A x v hi]; rfl
    · rw [mw9 K A x v hi]; rfl
theorem cuD_ok (C : WdC x n o L t) (hv : WtEnd x t v) : ∀ d ∈ cuD x v, d = true := fun d hd => by
  have hN := C.hN
  have hrow : n * 31 + 31 ≤ t * 31 := by have := Nat.mul_le_mul_right 31 (show n + 1 ≤ t by omega); omega
  unfold cuD at hd
  simp only [List.mem_cons, List.not_mem_nil, or_false] at hd
  rcases hd with rfl | rfl | rfl
  · exact (wd_in hv C.hn (by omega)).1
  · rw [C.hn, hv.hm, show ((n : Int)).toNat = n from rfl]; exact decide_eq_true (by omega)
  · rw [C.hn, show ((n : Int)).toNat = n from rfl, Nat.zero_add, wrow_num hv.hf (show n < t by omega) (j := 2) (by omega) (by omega) (by omega)]; rfl
theorem gX_chk (ho : 1 ≤ oW x ∧ oW x ≤ 8) : chkR (nOf (gsL (gW x))) = 0 := by
  have e : chkR (nOf (gsL (gW x))) = chkR (gW x) := rfl
  rw [e]
  refine chk_of (fun j hj => ?_) (fun i hi => ?_) ⟨by show (1 : Int) ≤ 58982; decide, by show (58982 : Int) ≤ 65536; decide⟩ rfl (tk_in (y := oW x) (by omega))
  · rcases (show j = 0 ∨ j = 1 ∨ j = 2 ∨ j = 3 ∨ j = 4 ∨ j = 5 ∨ j = 6 ∨ j = 7 ∨ j = 8 ∨ j = 9 ∨ j = 10 ∨ j = 21 by omega) with rfl | rfl | rfl | rfl | rfl | rfl | rfl | rfl | rfl | rfl | rfl | rfl <;> rfl
  · match i, hi with
    | 0, _ => rfl
    | 1, _ => rfl
    | 2, _ => rfl
    | 3, _ => rfl
    | 4, _ => rfl
    | 5, _ => rfl
    | 6, _ => rfl
theorem n1_eq (C : WdC x n o L t) : IntKind.i64.wrap (nW x - 1) = ((n - 1 : Nat) : Int) := by
  have h3 := C.h3
  rw [C.hn, w64 (by omega)]; omega
theorem no_eq' (C : WdC x n o L t) : IntKind.i64.wrap (nW x + oW x) = ((n + o : Nat) : Int) := by
  have h3 := C.h3
  have hLo := C.hLo
  rw [C.hn, C.ho, w64 (by omega)]; omega
theorem wdU_ok (C : WdC x n o L t) (hv : WtEnd x t v) (hp : phW K A x (lW x) (v.f 1) n = 2) : ∀ d ∈ wdU K A x v, d = true := fun d hd => by
  have h3 := C.h3
  have hN := C.hN
  have hLo := C.hLo
  have hL7 := C.hL7
  have hl := C.hl
  have ho := C.ho
  have nn : nnB v = false := by unfold nnB; simp
  unfold wdU at hd
  rcases List.mem_append.1 hd with hd | hd
  · simp only [List.mem_cons, List.not_mem_nil, or_false] at hd
    rcases hd with rfl | rfl | rfl
    · rfl
    · unfold plDem
      rw [Bool.and_eq_true, Bool.and_eq_true, hv.hn, hv.hm]
      refine ⟨?_, decide_eq_true (by omega), decide_eq_true ⟨by omega, by omega, Nat.le_refl _⟩⟩
      rw [gX_chk (by omega)]; rfl
    · rw [hv.hn]; exact List.all_eq_true.2 fun j hj => wrow_ok hv.hf (List.mem_range.1 hj)
  · rcases List.mem_append.1 hd with hd | hd
    · rcases List.mem_append.1 hd with hd | hd
      · obtain ⟨d', hd', rfl⟩ := List.mem_map.1 hd
        rw [phD_ok hv (n1_eq C) (by omega) d' hd', Bool.or_true]
      · obtain rfl := List.mem_singleton.1 hd
        rw [nn, cond_false, mw0 K A x v (n1_eq C), show n - 1 + 1 = n by omega, hp]; rfl
    · rcases List.mem_append.1 hd with hd | hd
      · exact cuD_ok C hv d hd
      · rcases List.mem_append.1 hd with hd | hd
        · obtain ⟨d', hd', rfl⟩ := List.mem_map.1 hd
          rw [cuD_ok C hv d' hd', Bool.or_true]
        · exact cuD_ok C hv d hd
end
end Go.Proofs.Ytgiinciclnekjaa

/-
  The law ProtectWelds: joined.
-/
set_option linter.unusedSimpArgs false
set_option linter.unusedVariables false
namespace Go.Proofs.Ytgiinciclnekjaa
open Sx Go.RowKit
section
variable {p m : Bool} {x : Nat → Int} {K A : Nat} {v : FVal} {n o L t : Nat}
theorem w_lt {k : Nat} (hn : nW x = n) (hk : k < n) : wN x k 2 = 10000 := by
  show (bif decide ((k : Int) ≥ nW x) then (IntKind.i64.wrap (x 4)).tmod 100001 else 10000) = _
  rw [hn, decide_eq_false (by omega)]; rfl
theorem w_ge {k : Nat} (hn : nW x = n) (hk : n ≤ k) : wN x k 2 = (IntKind.i64.wrap (x 4)).tmod 100001 := by
  show (bif decide ((k : Int) ≥ nW x) then (IntKind.i64.wrap (x 4)).tmod 100001 else 10000) = _
  rw [hn, decide_eq_true (by omega)]; rfl
theorem wdh0 (C : WdC x n o L t) (hv : WtEnd x t v) (hK : K = 0 ∨ K = 3 ∨ K = 7) : WdH K A x (lW x) (v.f 1) n n o L := by
  have hN := C.hN
  have h3 := C.h3
  exact ⟨hK, fun q hq => hv.hf q (by have := Nat.mul_le_mul_right 31 (show n ≤ t by omega); omega), C.hn, C.ho, C.hl, h3.1, C.hLo, ⟨Nat.le_refl _, by omega⟩, fun k hk => by rw [w_lt C.hn hk]; decide⟩
theorem wdh (C : WdC x n o L t) (hv : WtEnd x t v) (hK : K = 0 ∨ K = 3 ∨ K = 7) (hcu : -50000 ≤ (IntKind.i64.wrap (x 4)).tmod 100001) : WdH K A x (lW x) (v.f 1) t n o L := by
  have hN := C.hN
  have h3 := C.h3
  refine ⟨hK, hv.hf, C.hn, C.ho, C.hl, h3.1, C.hLo, ⟨by omega, hN.2⟩, fun k hk => ?_⟩
  by_cases h : k < n
  · rw [w_lt C.hn h]; decide
  · rw [w_ge C.hn (by omega)]; exact hcu
/-- What holds ahead of round k of the second loop. -/
structure WqInv (u : FVal) (n o k : Nat) : Prop where
  hi : u.i 0 = k
  hle : n ≤ k ∧ k ≤ n + o
theorem wdQ_ok (C : WdC x n o L t) (hv : WtEnd x t v) (H : WdH K A x (lW x) (v.f 1) t n o L) {u : FVal} {k : Nat} (hu : WqInv u n o k) (hk : k < n + o) : ∀ d ∈ wdQ K A x v u, d = true := fun d hd => by
  have hN := C.hN
  have hle := hu.hle
  have hi := hu.hi
  have e3 := (w_ph3 H hN.1 (k := k + 1) (by omega) (by omega)).1
  have ef := w_nofire H hN.1 k hk
  unfold wdQ at hd
  rcases List.mem_append.1 hd with hd | hd
  · obtain rfl := List.mem_singleton.1 hd
    rw [hi, no_eq' C]; exact decide_eq_true (by omega)
  · rcases List.mem_append.1 hd with hd | hd
    · exact phD_ok hv hi (by omega) d hd
    · rcases List.mem_append.1 hd with hd | hd
      · obtain ⟨d', hd', rfl⟩ := List.mem_map.1 hd
        rw [boD_ok hv hi (by omega) (Or.inl rfl) d' hd', Bool.or_true]
      · obtain rfl := List.mem_singleton.1 hd
        rw [mw0 K A x v hi, mw5 K A x v hi, e3, ef]; rfl
theorem wdV_ok (C : WdC x n o L t) (hv : WtEnd x t v) (H : WdH K A x (lW x) (v.f 1) t n o L) (h2 : weB K A 2 = false) {fr op : Bool} (hfr : fr = bif (weB K A 0 || weB K A 1) then flW x else false) (hop : op = true ∨ weB K A 0 = false ∨ weB K A 1 = false ∨ flW x = true) : ∀ d ∈ wdV K A x v fr op, d = true := fun d hd => by
  have hN := C.hN
  have hi := no_eq' C
  have ep := w_endF H hN.1 h2
  have e0 : (viOf (mwF K A x v (IntKind.i64.wrap (nW x + oW x)) 0) == 5) = fr := by
    rw [mw0 K A x v hi, ep, hfr]
    cases (weB K A 0 || weB K A 1) <;> cases flW x <;> rfl
  have e5 : vbOf (mwF K A x v (IntKind.i64.wrap (nW x + oW x)) 5) = fr := by
    obtain ⟨-, -, -, d⟩ := drvW H (show n + o < t by omega)
    rw [mw5 K A x v hi, d, ep, hfr]
    cases (weB K A 0 || weB K A 1) <;> cases flW x <;> rfl
  have e9 : op = true ∨ vbOf (mwF K A x v (IntKind.i64.wrap (nW x + oW x)) 9) = false := by
    rcases hop with h | h
    · exact Or.inl h
    · right
      rw [mw9 K A x v hi]
      exact w_path H hN.1 h2 h
  unfold wdV at hd
  rcases List.mem_append.1 hd with hd | hd
  · exact boD_ok hv hi (by omega) (Or.inl rfl) d hd
  · rcases List.mem_append.1 hd with hd | hd
    · obtain ⟨d', hd', rfl⟩ := List.mem_map.1 hd
      rw [phD_ok hv hi (by omega) d' hd', Bool.or_true]
    · rcases List.mem_append.1 hd with hd | hd
      · obtain ⟨d', hd', rfl⟩ := List.mem_map.1 hd
        rw [boD_ok hv hi (by omega) (Or.inr rfl) d' hd', Bool.or_true, Bool.or_true]
      · obtain rfl := List.mem_singleton.1 hd
        rw [e5, e0]
        rcases e9 with e | e
        · rw [e]; cases fr <;> cases vbOf (mwF K A x v (IntKind.i64.wrap (nW x + oW x)) 9) <;> rfl
        · rw [e]; cases fr <;> rfl
theorem wd_fin (C : WdC x n o L t) (hv : WtEnd x t v) (hK : K = 0 ∨ K = 3 ∨ K = 7) (h2 : weB K A 2 = false) {fr op : Bool} (hB : ∀ u, wdB1 p m x v u = wdB1X x v u K A fr op) (hfr : fr = bif (weB K A 0 || weB K A 1) then flW x else false) (hop : op = true ∨ weB K A 0 = false ∨ weB K A 1 = false ∨ flW x = true) :
    SegTo Try.prog wdF.ntmps (wdI p m x v) (wdK p m x) .normal (LwEnd 13) := by
  have hN := C.hN
  have h3 := C.h3
  have hLo := C.hLo
  have hB' := hB
  unfold wdB1 wdB1X at hB'
  simp only [Prod.mk.injEq] at hB'
  have hUp := fun u => (hB' u).1
  have hEarly := fun u => (hB' u).2.1
  have hGo := fun u => (hB' u).2.2.1
  have hOut := fun u => (hB' u).2.2.2.1
  have hEnd := fun u => (hB' u).2.2.2.2
  clear hB hB'
  have hp : phW K A x (lW x) (v.f 1) n = 2 := w_ph2 (wdh0 (A := A) C hv hK) (by omega) (Nat.le_refl _)
  have hU := wdU_ok (K := K) (A := A) C hv hp
  have hcu := cu_eq C hv
  by_cases hc : cuI x v < -50000
  · obtain ⟨cs, y, hw, hg⟩ := selW_map (hEarly ⟨fun _ => false, fun _ => 0, fun _ => 0, fun _ => 0, fun _ _ => undef⟩)
    simp only [Prod.mk.injEq] at hg
    obtain ⟨q1, q2⟩ := hg
    have hat := selW_G hw (by
      rw [q1]
      intro c hcc
      rcases List.mem_append.1 hcc with h | h
      · exact hU c h
      · obtain rfl := List.mem_singleton.1 h
        exact decide_eq_true hc)
    exact (caC_seg (wdT2_eq v) hat).to (retB_end q2)
  · have H : WdH K A x (lW x) (v.f 1) t n o L := wdh C hv hK (by omega)
    obtain ⟨cs, y, hw, hg⟩ := selW_map (hUp ⟨fun _ => false, fun _ => 0, fun _ => 0, fun _ => 0, fun _ _ => undef⟩)
    simp only [Prod.mk.injEq] at hg
    obtain ⟨k1, k2, k3, k4, -, k7⟩ := hg
    have hat := selW_G hw (by
      rw [k1]
      intro c hcc
      rcases List.mem_append.1 hcc with h | h
      · exact hU c h
      · obtain rfl := List.mem_singleton.1 h
        rw [decide_eq_false hc]; rfl)
    obtain ⟨S, hS⟩ := Option.isSome_iff_exists.1 k2
    have hSe : wdS2 p m x v = S := by unfold wdS2; rw [hw]; simp only [Option.map_some, Option.bind_some, hS, Option.getD_some]
    have hxx := stpOf_at hS
    rw [← hSe, k3] at hxx
    have hKK : (wdS2 p m x v).rest = wdK2 p m x v := by unfold wdK2; rfl
    rw [hKK] at hxx
    refine (caC_seg (wdT2_eq v) hat).then_ hxx ?_
    refine seg_block ?_
    have fam : ∀ u, (wdS2 p m x v).st.apps (famW u 0 wdD2) = some (wdI2 p m x v u) := fun u => by
      obtain ⟨cs, y, hw, hg⟩ := selW_map (hUp u)
      simp only [Prod.mk.injEq] at hg
      obtain ⟨I, hI⟩ := Option.isSome_iff_exists.1 hg.2.2.2.2.1
      unfold wdI2
      rw [hI, Option.getD_some]
    refine loop_then (k := 2) (rest := wdK2 p m x v) (body := (wdS2 p m x v).body) wdD2 (σ := (wdS2 p m x v).st) (wdI2 p m x v) fam k4 (fun u => ∃ k, WqInv u n o k) (fun _ => True) (fun u => (((n + o : Nat) : Int) - u.i 0).toNat) ⟨n, ?_⟩ (fun u hu => ?_) (fun u _ => ?_)
    · exact ⟨by rw [rvV_i, k7]; exact C.hn, Nat.le_refl _, by omega⟩
    · obtain ⟨k, hu⟩ := hu
      have hi := hu.hi
      have hle := hu.hle
      by_cases hk : k < n + o
      · obtain ⟨cs, y, hw, hg⟩ := wayR_map (hGo u)
        obtain ⟨w1, w2, w3⟩ := wayR_at hw
        simp only [Prod.mk.injEq] at hg
        obtain ⟨g1, g2⟩ := hg
        obtain ⟨s1, s2⟩ := seg_evC tbl_ok tbl_any caC_ok (wdR2_eq v u) (w1 (by
          rw [g1]
          exact wdQ_ok C hv H hu hk))
        have e0 : (rvV wdD2 y).i 0 = u.i 0 + 1 := by
          rw [rvV_i, g2, hi]
          exact w64 (by omega)
        exact ⟨.normal, y, s1, s2, w2, w3, Or.inl ⟨rfl, ⟨k + 1, by rw [e0, hi]; omega, by omega, by omega⟩, by omega⟩⟩
      · obtain ⟨cs, y, hw, hg⟩ := wayR_map (hOut u)
        obtain ⟨w1, w2, w3⟩ := wayR_at hw
        simp only at hg
        obtain ⟨s1, s2⟩ := seg_evC tbl_ok tbl_any caC_ok (wdR2_eq v u) (w1 (by
          rw [hg]
          intro c hc
          obtain rfl := List.mem_singleton.1 hc
          rw [hi, no_eq' C, decide_eq_false (by omega)]; rfl))
        exact ⟨.exit 2, y, s1, s2, w2, w3, Or.inr ⟨rfl, trivial⟩⟩
    · obtain ⟨cs, y, hw, hg⟩ := selW_map (hEnd u)
      simp only [Prod.mk.injEq] at hg
      obtain ⟨q1, q2⟩ := hg
      have hat := selW_G hw (by rw [q1]; exact wdV_ok C hv H h2 hfr hop)
      exact (caC_seg (wdX_eq v u) hat).to (retB_end q2)
theorem fl_eq (C : WdC x n o L t) (hv : WtEnd x t v) : flB x v = flW x := by
  unfold flB flW
  rw [cu_eq C hv]
theorem wd_seg (hx : WdOk x) : SegTo Try.prog wdF.ntmps (wdE p m x) [.code (cdOf 13)] .normal (LwEnd 13) := by
  obtain ⟨n, o, L, t, hn, ho, hl, ht, h3, h17, hLo, ho8, hL7, hN, h80⟩ := wd_nums hx
  have C : WdC x n o L t := ⟨hn, ho, hl, ht, ⟨h3, h17⟩, ⟨hLo, ho8⟩, hL7, ⟨hN, h80⟩⟩
  refine wd_up hx ht (by omega) h80 fun v hv => ?_
  have hf := fl_eq C hv
  cases p <;> cases m
  · exact wd_fin C hv (Or.inl rfl) rfl (fun u => wd_Bff x v u) rfl (Or.inr (Or.inl rfl))
  · exact wd_fin C hv (Or.inr (Or.inl rfl)) rfl (fun u => wd_Bft x v u) hf (Or.inr (Or.inl rfl))
  · exact wd_fin C hv (Or.inr (Or.inl rfl)) rfl (fun u => wd_Btf x v u) hf (Or.inr (Or.inr (Or.inl rfl)))
  · refine wd_fin C hv (Or.inr (Or.inr rfl)) rfl (fun u => wd_Btt x v u) hf ?_
    rw [hf]
    cases flW x with
    | true => exact Or.inr (Or.inr (Or.inr rfl))
    | false => exact Or.inl rfl
end
end Go.Proofs.Ytgiinciclnekjaa

set_option linter.unusedSimpArgs false
set_option linter.unusedVariables false
namespace Go.Proofs.Ytgiinciclnekjaa
open Go.ChangeShapes Go.WideShapes Go.ChangeAt Go.RowKit

open Sx
theorem fn_wd : (fnOf 13).body = some (cdOf 13) ∧ (7 : Nat) ≤ (fnOf 13).ntmps ∧ Try.prog.funcs[(13 : Nat)]? = some (fnOf 13) := ⟨by kernel_rfl, Nat.le_of_ble_eq_true (by kernel_rfl), Try.func13⟩
def xW (a b c d e : Int) : Nat → Int
  | 0 => a
  | 1 => b
  | 2 => c
  | 3 => d
  | _ => e
theorem ProtectWelds_walk (p m : Bool) (a : Int) (ha : (Lit.int .u8 a).wf = true) (b : Int) (hb : (Lit.int .u8 b).wf = true) (c : Int) (hc : (Lit.int .u8 c).wf = true) (d : Int) (hd : (Lit.int .u8 d).wf = true) (e : Int) (he : (Lit.int .i32 e).wf = true) (w : World) :
    Calls Try.prog 13 #[.bool p, .bool m, .int .u8 a, .int .u8 b, .int .u8 c, .int .u8 d, .int .i32 e] w fun en w' => en = .returned (.bool true) ∧ Below w.heap.size w w' := by
  have hx : WdOk (xW a b c d e) := ⟨fun j hj => by
    match j, hj with
    | 0, _ => exact wfU8 ha
    | 1, _ => exact wfU8 hb
    | 2, _ => exact wfU8 hc
    | 3, _ => exact wfU8 hd, wfI32 he⟩
  obtain ⟨f1, f2, f3⟩ := fn_wd
  have := seg_true (args := wdA p m (xW a b c d e)) tbl_ok f3 f1 f2 (wd_seg hx) (hp0 w) (fun y hy => by
    simp only [wdA, List.mem_cons, List.not_mem_nil, or_false] at hy
    rcases hy with rfl | rfl | rfl | rfl | rfl | rfl | rfl <;> trivial)
  exact this

theorem protectWelds_own : ownKnob Try.prog.godebug = none := by kernel_rfl
theorem protectWelds_laidOut : laidOutB Try.prog = true := by kernel_rfl
set_option maxRecDepth 100000 in
theorem protectWelds_lifted (os : Os) (started : os.Started) (H : Type) (enc : TypeId × Value → H) :
    ReturnsInHanded {} Try.checked os 13 .any (Rows.protectWeldsSpec.pre6 enc Try.prog Try.f13 Rows.protectWeldsRow.domain false) (Rows.protectWeldsSpec.post enc Try.prog Try.f13 false true false false) := by
  refine returnsInHanded_of_change (C := Try.checked) protectWelds_own started (by kernel_rfl) Try.func13
    (ChangeSpec.witness6 (enc := enc) (C := Try.checked) false ⟨#[], #[.bool false, .bool false, .int .u8 0, .int .u8 0, .int .u8 0, .int .u8 0, .int .i32 0], []⟩ 8 (by kernel_rfl) (by kernel_rfl) (by kernel_rfl) (by kernel_rfl)) ?_
  intro W base args ds gs before hval0 hW hcnd _
  have hval : ∀ (j : Nat) t v, Try.f13.params[j]? = some t → args[j]? = some v → Value.okWide Try.prog W .any base t v := hval0
  have hW' := hW
  obtain ⟨p, q, hA0, hV, rfl, hfz, hnd⟩ := hW
  have hA : DataW.TrodAll enc Try.prog W 0 (fun _ => true) true Try.f13.params.toList args.toList ds p := hA0
  rw [Try.params13] at hA hval
  obtain ⟨v0, vs0, d0, ds0, p0, q0, hargs, rfl, rfl, h0, r0⟩ := trodAll_cons hA
  obtain ⟨v1, vs1, d1, ds1, p1, q1, rfl, rfl, rfl, h1, r1⟩ := trodAll_cons r0
  obtain ⟨v2, vs2, d2, ds2, p2, q2, rfl, rfl, rfl, h2, r2⟩ := trodAll_cons r1
  obtain ⟨v3, vs3, d3, ds3, p3, q3, rfl, rfl, rfl, h3, r3⟩ := trodAll_cons r2
  obtain ⟨v4, vs4, d4, ds4, p4, q4, rfl, rfl, rfl, h4, r4⟩ := trodAll_cons r3
  obtain ⟨v5, vs5, d5, ds5, p5, q5, rfl, rfl, rfl, h5, r5⟩ := trodAll_cons r4
  obtain ⟨v6, vs6, d6, ds6, p6, q6, rfl, rfl, rfl, h6, r6⟩ := trodAll_cons r5
  obtain ⟨rfl, rfl, rfl⟩ := trodAll_nil r6
  obtain rfl : args = #[v0, v1, v2, v3, v4, v5, v6] := by cases args; simp_all
  obtain ⟨rfl, rfl⟩ := trodVars_none hV
  have k0 := h0
  have lt0 : ∀ x ∈ p0, x.block < W.heap.size := by obtain ⟨m, hm⟩ := k0; exact DataW.trod_lt m _ _ _ hm
  obtain ⟨a0, e0, -, -⟩ := open_bool Try.underlying4 (hval 0 4 v0 rfl rfl) h0
  subst e0
  have k1 := h1
  have lt1 : ∀ x ∈ p1, x.block < W.heap.size := by obtain ⟨m, hm⟩ := k1; exact DataW.trod_lt m _ _ _ hm
  obtain ⟨a1, e1, -, -⟩ := open_bool Try.underlying4 (hval 1 4 v1 rfl rfl) h1
  subst e1
  have k2 := h2
  have lt2 : ∀ x ∈ p2, x.block < W.heap.size := by obtain ⟨m, hm⟩ := k2; exact DataW.trod_lt m _ _ _ hm
  obtain ⟨a2, e2, -, -, w2⟩ := open_int Try.underlying5 (hval 2 5 v2 rfl rfl) h2
  subst e2
  have k3 := h3
  have lt3 : ∀ x ∈ p3, x.block < W.heap.size := by obtain ⟨m, hm⟩ := k3; exact DataW.trod_lt m _ _ _ hm
  obtain ⟨a3, e3, -, -, w3⟩ := open_int Try.underlying5 (hval 3 5 v3 rfl rfl) h3
  subst e3
  have k4 := h4
  have lt4 : ∀ x ∈ p4, x.block < W.heap.size := by obtain ⟨m, hm⟩ := k4; exact DataW.trod_lt m _ _ _ hm
  obtain ⟨a4, e4, -, -, w4⟩ := open_int Try.underlying5 (hval 4 5 v4 rfl rfl) h4
  subst e4
  have k5 := h5
  have lt5 : ∀ x ∈ p5, x.block < W.heap.size := by obtain ⟨m, hm⟩ := k5; exact DataW.trod_lt m _ _ _ hm
  obtain ⟨a5, e5, -, -, w5⟩ := open_int Try.underlying5 (hval 5 5 v5 rfl rfl) h5
  subst e5
  have k6 := h6
  have lt6 : ∀ x ∈ p6, x.block < W.heap.size := by obtain ⟨m, hm⟩ := k6; exact DataW.trod_lt m _ _ _ hm
  obtain ⟨a6, e6, -, -, w6⟩ := open_int Try.underlying21 (hval 6 21 v6 rfl rfl) h6
  subst e6
  clear hA0 hval0
  refine (ProtectWelds_walk a0 a1 a2 w2 a3 w3 a4 w4 a5 w5 a6 w6 W).mono fun e W' ⟨he, bel⟩ => ?_
  subst he
  exact ⟨_, rfl, _, _, _, [], _, [], hW', trodAll_mk1 (shut_bool Try.underlying4 _), (trodAll_cons_mk (Below.trod protectWelds_laidOut (by kernel_rfl) (of_decide_eq_true (by kernel_rfl)) k0 bel lt0) (trodAll_cons_mk (Below.trod protectWelds_laidOut (by kernel_rfl) (of_decide_eq_true (by kernel_rfl)) k1 bel lt1) (trodAll_cons_mk (Below.trod protectWelds_laidOut (by kernel_rfl) (of_decide_eq_true (by kernel_rfl)) k2 bel lt2) (trodAll_cons_mk (Below.trod protectWelds_laidOut (by kernel_rfl) (of_decide_eq_true (by kernel_rfl)) k3 bel lt3) (trodAll_cons_mk (Below.trod protectWelds_laidOut (by kernel_rfl) (of_decide_eq_true (by kernel_rfl)) k4 bel lt4) (trodAll_cons_mk (Below.trod protectWelds_laidOut (by kernel_rfl) (of_decide_eq_true (by kernel_rfl)) k5 bel lt5) (trodAll_cons_mk (Below.trod protectWelds_laidOut (by kernel_rfl) (of_decide_eq_true (by kernel_rfl)) k6 bel lt6) trodAll_mk0))))))), rfl, bel.frame _, fun h => by cases h⟩

theorem ProtectWelds_proved : Rows.ProtectWeldsSaid :=
  OpenClaim.holds_of_wide 13 Try.f13 rfl rfl rfl rfl rfl rfl rfl ⟨rfl, rfl, rfl, rfl, rfl⟩ rfl rfl rfl rfl rfl (by kernel_rfl) Try.func13 (by kernel_rfl)
    (of_decide_eq_true (by kernel_rfl)) (by unfold Func.isWrapper; first | (rw [if_pos (by decide +kernel)]; kernel_rfl) | (rw [if_neg (by decide +kernel)]; exact ⟨rfl, rfl⟩))
    (fun os started H enc _ => protectWelds_lifted os started H enc)
end Go.Proofs.Ytgiinciclnekjaa
