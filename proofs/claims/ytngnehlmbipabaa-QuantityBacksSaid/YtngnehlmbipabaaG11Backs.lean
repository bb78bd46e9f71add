/-
  The walks of slices.Clone over spans, Halve, Widest of an empty box, SameBox.
-/
import Derived.Test.YtngnehlmbipabaaG9Backs
import Derived.Laws.AppendOwnNone
import Derived.Lib.LazyBuf
import Derived.Test.YtngnehlmbipabaaG10Backs
set_option linter.unusedSimpArgs false
set_option linter.unusedVariables false
namespace Go.Proofs.Ytngnehlmbipabaa
open Go.RowKit

/-- The block g holds the row l, and may be written. -/
def SpBlk (W : World) (g : Nat) (l : List (Int × Int)) : Prop := ∃ cur T, W.heap[g]? = some (.cells cur T (0, 0)) ∧ ∀ k, k < l.length → cur[k * 2]? = some (.int .i64 (l.getD k (0, 0)).1) ∧ cur[k * 2 + 1]? = some (.int .i64 (l.getD k (0, 0)).2)
theorem SpBlk.step {W w2 : World} {g : Nat} {l : List (Int × Int)} (h : SpBlk W g l) (hb : Below W.heap.size W w2) : SpBlk w2 g l := by
  obtain ⟨cur, T, h1, h2⟩ := h
  exact ⟨cur, T, blk_step h1 hb, h2⟩
theorem SpBlk.far {W : World} {g r o : Nat} {v : Value} {l : List (Int × Int)} (h : SpBlk W g l) (hne : g ≠ r) : SpBlk (W.setCell ⟨r, o, none⟩ v) g l := by
  obtain ⟨cur, T, h1, h2⟩ := h
  exact ⟨cur, T, blk_set_other h1 hne, h2⟩
theorem getD_set {l : List (Int × Int)} {i k : Nat} {s : Int × Int} (hi : i < l.length) : (l.set i s).getD k (0, 0) = if i = k then s else l.getD k (0, 0) := by
  simp only [List.getD_eq_getElem?_getD, List.getElem?_set]
  split
  · rename_i h; subst h; simp [hi]
  · rfl
theorem SpBlk.setHi {W : World} {g i : Nat} {y : Int} {l : List (Int × Int)} (h : SpBlk W g l) (hi : i < l.length) : SpBlk (W.setCell ⟨g, i * 2 + 1, none⟩ (.int .i64 y)) g (l.set i ((l.getD i (0, 0)).1, y)) := by
  obtain ⟨cur, T, h1, h2⟩ := h
  refine ⟨_, T, blk_set h1, fun k hk => ?_⟩
  rw [List.length_set] at hk
  obtain ⟨q1, q2⟩ := h2 k hk
  obtain ⟨q3, q4⟩ := h2 i hi
  have hlt : i * 2 + 1 < cur.size := (Array.getElem?_eq_some_iff.1 q4).1
  rw [getD_set hi]
  by_cases e : i = k
  · subst e
    simp only [if_true]
    refine ⟨?_, ?_⟩
    · rw [Array.getElem?_setIfInBounds, if_neg (by omega)]; exact q1
    · rw [Array.getElem?_setIfInBounds, if_pos rfl, if_pos hlt]
  · rw [if_neg e, Array.getElem?_setIfInBounds, if_neg (by omega), Array.getElem?_setIfInBounds, if_neg (by omega)]
    exact ⟨q1, q2⟩
theorem SpBlk.setLo {W : World} {g i : Nat} {x : Int} {l : List (Int × Int)} (h : SpBlk W g l) (hi : i < l.length) : SpBlk (W.setCell ⟨g, i * 2, none⟩ (.int .i64 x)) g (l.set i (x, (l.getD i (0, 0)).2)) := by
  obtain ⟨cur, T, h1, h2⟩ := h
  refine ⟨_, T, blk_set h1, fun k hk => ?_⟩
  rw [List.length_set] at hk
  obtain ⟨q1, q2⟩ := h2 k hk
  obtain ⟨q3, q4⟩ := h2 i hi
  have hlt : i * 2 < cur.size := (Array.getElem?_eq_some_iff.1 q3).1
  rw [getD_set hi]
  by_cases e : i = k
  · subst e
    simp only [if_true]
    refine ⟨?_, ?_⟩
    · rw [Array.getElem?_setIfInBounds, if_pos rfl, if_pos hlt]
    · rw [Array.getElem?_setIfInBounds, if_neg (by omega)]; exact q2
  · rw [if_neg e, Array.getElem?_setIfInBounds, if_neg (by omega), Array.getElem?_setIfInBounds, if_neg (by omega)]
    exact ⟨q1, q2⟩
theorem SpBlk.at_ {W : World} {g : Nat} {l : List (Int × Int)} (h : SpBlk W g l) : SpAt (some ⟨g, 0, none⟩) l W := fun _ => by
  obtain ⟨cur, T, h1, h2⟩ := h
  exact ⟨g, 0, rfl, blk_lt h1, fun j hj => ⟨blk_cell h1 (by simpa using (h2 j hj).1), blk_cell h1 (by simpa using (h2 j hj).2)⟩⟩
theorem SpBlk.cells {W : World} {g : Nat} {l : List (Int × Int)} (h : SpBlk W g l) {k : Nat} (hk : k < l.length) :
    W.cell? ⟨g, k * 2, none⟩ = some (.int .i64 (l.getD k (0, 0)).1) ∧ W.cell? ⟨g, k * 2 + 1, none⟩ = some (.int .i64 (l.getD k (0, 0)).2) ∧ W.frozen? ⟨g, k * 2, none⟩ = false ∧ W.frozen? ⟨g, k * 2 + 1, none⟩ = false := by
  obtain ⟨cur, T, h1, h2⟩ := h
  exact ⟨blk_cell h1 (h2 k hk).1, blk_cell h1 (h2 k hk).2, blk_free h1, blk_free h1⟩
theorem SpOwn.blk {W : World} {B : Nat} {v : Value} {l : List (Int × Int)} (h : SpOwn W B v l) (hn : l ≠ []) : ∃ g c, v = .slice (some ⟨g, 0, none⟩) l.length c ∧ B ≤ g ∧ SpBlk W g l := by
  obtain ⟨h1, h2⟩ := h
  rcases h2 with ⟨rfl, h2⟩ | ⟨g, cap, cur, rfl, q2, q3, q4, q5, q6, q7⟩
  · exact absurd (List.length_eq_zero_iff.1 h2) hn
  · refine ⟨_, _, rfl, q2, cur, _, q3, fun j hj => ?_⟩
    have hf := flatS_get l j hj
    rw [← q7] at hf
    rw [List.getElem?_take_of_lt (by omega), List.getElem?_take_of_lt (by omega)] at hf
    exact ⟨by simpa using hf.1, by simpa using hf.2⟩
theorem flatS_cells {W : World} {b off : Nat} {l : List (Int × Int)} (h : SpanCells W b off l) : ∀ j u, (flatS l)[j]? = some u → W.cell? ((⟨b, off, none⟩ : Addr).add j) = some u := by
  intro j u hu
  have hj : j < l.length * 2 := by rw [← flatS_len]; exact (List.getElem?_eq_some_iff.1 hu).1
  have e : j = j / 2 * 2 ∨ j = j / 2 * 2 + 1 := by omega
  have hk : j / 2 < l.length := by omega
  have q := h.2 (j / 2) hk
  have f := flatS_get l (j / 2) hk
  have hadd : ((⟨b, off, none⟩ : Addr).add j) = ⟨b, off + j, none⟩ := by simp [Addr.add]
  rw [hadd]
  generalize j / 2 = k at *
  rcases e with e | e
  · rw [e] at hu ⊢
    rw [f.1] at hu
    exact q.1.trans hu
  · rw [e] at hu ⊢
    rw [f.2] at hu
    exact q.2.trans hu
theorem flatS_one {l : List (Int × Int)} : ∀ u ∈ flatS l, u.oneCell' = true := by
  intro u hu
  unfold flatS at hu
  obtain ⟨s, _, hs⟩ := List.mem_flatMap.1 hu
  simp at hs
  rcases hs with rfl | rfl <;> rfl

set_option maxHeartbeats 1000000 in
set_option maxRecDepth 20000 in
theorem Clone_row (v : Value) (l : List (Int × Int)) (w : World) (hl : l.length ≤ 1000000) (hv : SpRow v l w) :
    Calls Try.prog 73 #[v] w fun e w' => ∃ x, e = .returned x ∧ SpOwn w' w.heap.size x l ∧ Below w.heap.size w w' := by
  obtain ⟨a, c, rfl, hv⟩ := hv
  obtain ⟨i0, hi, hz0, hz1, hz2⟩ := info_parts infoSp
  have HV := Lib.hid hv
  clear hv
  cases a with
  | none =>
    have hn : l = [] := by
      by_cases h : l = []
      · exact h
      · obtain ⟨b, off, h1, _⟩ := HV.out h
        cases h1
    subst hn
    clear HV
    have hE := Lib.run_eql_slice_nil (P := Try.prog) w 47 40 none 0 c 0 0 Try.underlying47
    go_enter Try.func73, Try.ntmps73
    go_wp2_with fail
    go_ret
    exact ⟨_, rfl, SpOwn.nil, Below.refl _ _⟩
  | some ad =>
    have hE := Lib.run_eql_slice_nil (P := Try.prog) w 47 40 (some ad) l.length c 0 0 Try.underlying47
    have hcell : Hid (∀ j u, (flatS l)[j]? = some u → (w.alloc (.cells #[] 40)).cell? (ad.add j) = some u) := by
      intro j u hu
      by_cases hn : l = []
      · subst hn; simp [flatS] at hu
      · obtain ⟨b, off, he, hc⟩ := HV.out hn
        cases he
        exact flatS_cells (hc.step bAl') j u hu
    have hown : Hid ((w.alloc (.cells #[] 40)).ownsRow w.heap.size 40 2 (.slice (some ⟨w.heap.size, 0, none⟩) 0 0) 0 []) :=
      ⟨rfl, Or.inr ⟨w.heap.size, 0, #[], rfl, Nat.le_refl _, blk_new _ _, by omega, by decide, rfl, rfl⟩⟩
    have hlen := flatS_len l
    have hone := flatS_one (l := l)
    have hfin : Hid (∀ (v : Value) (W : World), W.ownsRow w.heap.size 40 2 v (0 + l.length) ([] ++ flatS l) → SpOwn W w.heap.size v l) := fun v W h => by
      rw [Nat.zero_add, List.nil_append] at h; exact h
    generalize flatS l = F at *
    clear HV
    go_enter Try.func73, Try.ntmps73
    go_wp2_with (at_builtin; refine wpList_append_own _ rfl (.tmp 5) (.tmp 6) 47 rfl (w.heap.size) 40 i0 (.agg #[.int .i64 0, .int .i64 0]) 2 16 Try.underlying47 hi hz0 hz1 hz2 rfl (by decide) _ _ _ rfl hown.out ad l.length c F rfl hlen hcell.out hone (by unfold maxLen; omega) (by omega) (by simp) ?_; intro v' w1 hown' hgrow hnil)
    have hO := hfin.out v' w1 hown'
    have hB : Below w.heap.size w w1 := (bAl' (W := w)).grown hgrow (by simp) (own_ge hown.out)
    clear hown' hgrow hown hcell hfin hnil
    go_wp2_with fail
    go_ret
    exact ⟨_, rfl, hO, hB⟩

set_option maxHeartbeats 1000000 in
theorem Widest_nil (v : Value) (w : World) (hv : SpRow v [] w) : Calls Try.prog 30 #[v] w fun e w' => e = .returned (.tuple #[.int .i64 0, .int .i64 5]) ∧ Below w.heap.size w w' := by
  have V := Lib.hid (fun w h => CheckBox_row v [] w (by simp) h)
  rw [show checkB [] = 0 from by decide] at V
  have HV := Lib.hid hv
  obtain ⟨a, c, rfl, -⟩ := hv
  simp only [List.length_nil] at *
  go_enter Try.func30, Try.ntmps30
  go_wp2_with (go_at_call 19; refine (V.out _ HV.out).mono ?_; rintro e w1 ⟨rfl, hb1⟩)
  go_ret2
  exact ⟨rfl, (by repeat' (first | exact Below.refl _ _ | assumption | apply bDrewN | apply bDrew | apply bAlloc | (refine bSet ?_ ?_ _) | (refine bStep ?_ (by assumption)) | omega | (simp <;> omega)))⟩

set_option maxHeartbeats 1000000 in
set_option maxRecDepth 20000 in
theorem SameBox_row (v u : Value) (l m : List (Int × Int)) (w : World) (hl : l.length ≤ 1000000) (hm : m.length ≤ 1000000) (hv : SpRow v l w) (hu : SpRow u m w) :
    Calls Try.prog 27 #[v, u] w fun e w' => e = .returned (.bool (decide (l = m))) ∧ Below w.heap.size w w' := by
  obtain ⟨a, ca, rfl, hA⟩ := hv
  obtain ⟨b, cb, rfl, hB⟩ := hu
  by_cases h3 : l.length = m.length
  · have hg : ∀ B : Bool, (B = true ↔ ∀ k, k < l.length → l.getD k (0, 0) = m.getD k (0, 0)) → B = decide (l = m) := by
      intro B hB
      rw [Bool.eq_iff_iff, hB, decide_eq_true_eq]
      constructor
      · intro h
        refine List.ext_getElem h3 fun k h1 h2 => ?_
        have := h k h1
        simpa [List.getD_eq_getElem?_getD, List.getElem?_eq_getElem h1, List.getElem?_eq_getElem h2] using this
      · intro h k _; rw [h]
    generalize decide (l = m) = r at *
    have HG := Lib.hid hg
    have H3 := Lib.hid h3
    rw [← h3]
    have HA := Lib.hid hA
    have HB := Lib.hid hB
    clear hg h3 hA hB hm
    go_enter Try.func27, Try.ntmps27
    go_wp2_with fail
    go_loopw [5] (fun i wr => ∃ (k n : Nat), k ≤ l.length ∧ i = .int .i64 k ∧ wr = w.drewN n ∧ Hid (∀ j, j < k → l.getD j (0, 0) = m.getD j (0, 0))) (fun i _ => l.length - (intOf i).toNat)
    case atStart => exact ⟨0, 0, by omega, rfl, rfl, fun j hj => by omega⟩
    case round =>
      obtain ⟨k, n, hk, rfl, rfl, HI⟩ := hrel
      by_cases hlt : k < l.length
      · have hlt2 : k < m.length := by rw [← H3.out]; exact hlt
        obtain ⟨bu, ou, rfl, hc⟩ := HA.out (fun h => by rw [h] at hlt; simp at hlt)
        obtain ⟨bv, ov, rfl, hd⟩ := HB.out (fun h => by rw [h] at hlt2; simp at hlt2)
        obtain ⟨q1, q2⟩ := hc.at_ hlt
        obtain ⟨q3, q4⟩ := hd.at_ hlt2
        have hgk : l.getD k (0, 0) = l[k] := by simp [List.getD, List.getElem?_eq_getElem hlt]
        have hgm : m.getD k (0, 0) = m[k] := by simp [List.getD, List.getElem?_eq_getElem hlt2]
        have HI2 : Hid (l[k] = m[k] → ∀ j, j < k + 1 → l.getD j (0, 0) = m.getD j (0, 0)) := by
          intro h j hj
          rcases Nat.lt_or_ge j k with h' | h'
          · exact HI.out j h'
          · obtain rfl : j = k := by omega
            rw [hgk, hgm]; exact h
        have HN2 : Hid (l[k] ≠ m[k] → r = false) := by
          intro h
          refine (HG.out false ⟨fun h => absurd h (by decide), fun h' => ?_⟩).symm
          have := h' k hlt
          rw [hgk, hgm] at this
          exact absurd this h
        clear hc hd hgk hgm HG HI H3
        generalize l[k] = x at *
        generalize m[k] = y at *
        obtain ⟨x1, x2⟩ := x
        obtain ⟨y1, y2⟩ := y
        dsimp only at *
        by_cases hx1 : x1 = y1
        · by_cases hx2 : x2 = y2
          · subst hx1
            subst hx2
            have HI3 := Lib.hid (HI2.out rfl)
            clear HI2 HN2
            go_wp2_with fail
            go_quiet (fail)
            go_wp2_with fail
            go_roundw
            case rel => exact ⟨k + 1, _, by omega, by go_num, by first | exact Go.World.drewN_drewN .. | (simp; rfl) | rfl, HI3.out⟩
            case measure => (simp [intOf]; omega)
          · subst hx1
            obtain rfl := HN2.out (by simp [hx2])
            clear HI2 HN2
            go_wp2_with fail
            go_quiet (fail)
            go_wp2_with fail
            go_ret
            exact ⟨rfl, (by repeat' (first | exact Below.refl _ _ | assumption | apply bDrewN | apply bDrew | apply bAlloc | (refine bSet ?_ ?_ _) | (refine bStep ?_ (by assumption)) | omega | (simp <;> omega)))⟩
        · obtain rfl := HN2.out (by simp [hx1])
          clear HI2 HN2
          go_wp2_with fail
          go_quiet (fail)
          go_wp2_with fail
          go_ret
          exact ⟨rfl, (by repeat' (first | exact Below.refl _ _ | assumption | apply bDrewN | apply bDrew | apply bAlloc | (refine bSet ?_ ?_ _) | (refine bStep ?_ (by assumption)) | omega | (simp <;> omega)))⟩
      · obtain rfl : r = true := (HG.out true ⟨fun _ j hj => HI.out j (by omega), fun _ => rfl⟩).symm
        clear HA HB HI HG
        go_wp2_with fail
        go_ret
        exact ⟨rfl, (by repeat' (first | exact Below.refl _ _ | assumption | apply bDrewN | apply bDrew | apply bAlloc | (refine bSet ?_ ?_ _) | (refine bStep ?_ (by assumption)) | omega | (simp <;> omega)))⟩
  · have hr : decide (l = m) = false := decide_eq_false (fun h => h3 (by rw [h]))
    rw [hr]
    have h3' : (l.length : Int) ≠ (m.length : Int) := by omega
    clear hr hl hm h3 hA hB
    go_enter Try.func27, Try.ntmps27
    go_wp2_with fail
    go_ret
    exact ⟨rfl, (by repeat' (first | exact Below.refl _ _ | assumption | apply bDrewN | apply bDrew | apply bAlloc | (refine bSet ?_ ?_ _) | (refine bStep ?_ (by assumption)) | omega | (simp <;> omega)))⟩

end Go.Proofs.Ytngnehlmbipabaa

/-
  The walk of CheckCurve, at every curve; slices.Clone and slices.Equal over numbers.
-/
set_option linter.unusedSimpArgs false
set_option linter.unusedVariables false
namespace Go.Proofs.Ytngnehlmbipabaa
open Go.RowKit

set_option maxHeartbeats 2000000 in
set_option maxRecDepth 20000 in
theorem CheckCurve_any (a b : Option Addr) (ca cb : Nat) (xs ys : List Int) (w : World) (hx : xs.length ≤ 1000000) (hy : ys.length ≤ 1000000) (hA : IntAt a xs w) (hB : IntAt b ys w) :
    Calls Try.prog 12 #[.agg #[.slice a xs.length ca, .slice b ys.length cb]] w fun e w' => e = .returned (.int .i64 (checkC xs ys)) ∧ Below w.heap.size w w' := by
  by_cases h64 : 64 < max xs.length ys.length
  · have hr : checkC xs ys = 6 := by unfold checkC; rw [if_pos h64]
    rw [hr]
    have e1 : (if xs.length < ys.length then (ys.length : Int) else (xs.length : Int)) = max (xs.length : Int) (ys.length : Int) := by split <;> omega
    have h64' : 64 < max (xs.length : Int) (ys.length : Int) := by omega
    generalize max (xs.length : Int) (ys.length : Int) = M at *
    clear hr h64 hA hB hx hy
    go_enter Try.func12, Try.ntmps12
    go_wp2_with fail
    exact bodyPost_ret (v := .int .i64 6) (by simp only [results, Try.results12]; go_simp) rfl ⟨rfl, (by repeat' (first | exact Below.refl _ _ | assumption | apply bDrewN | apply bDrew | apply bAlloc | (refine bSet ?_ ?_ _) | (refine bStep ?_ (by assumption)) | omega | (simp <;> omega)))⟩
  by_cases hp : preC xs ys
  · have hne : xs ≠ [] := fun e => by have := hp.2.1; rw [e] at this; simp at this
    have hne2 : ys ≠ [] := fun e => by have := hp.2.1; rw [hp.1, e] at this; simp at this
    obtain ⟨bu, ou, rfl, _⟩ := id (hA hne)
    obtain ⟨bv, ov, rfl, _⟩ := id (hB hne2)
    have := callsIn_wide.1 (CheckCurve_pre bu ou ca bv ov cb xs ys w (by omega) hp hA hB)
    rw [hp.1] at this ⊢
    exact this
  · have hr : checkC xs ys = 2 := by unfold checkC; rw [if_neg h64, if_neg (fun h => hp h.1)]
    rw [hr]
    have e1 : (if xs.length < ys.length then (ys.length : Int) else (xs.length : Int)) = max (xs.length : Int) (ys.length : Int) := by split <;> omega
    have h64' : max (xs.length : Int) (ys.length : Int) ≤ 64 := by omega
    have C1 := Lib.hid (fun w h => containsFunc_ints xs a ca w hx h)
    have C2 := Lib.hid (fun w h => containsFunc_ints ys b cb w hy h)
    have HA := Lib.hid hA
    have HB := Lib.hid hB
    have hc : xs.length ≠ ys.length ∨ (xs.length = ys.length ∧ (xs.length < 2 ∨ (2 ≤ xs.length ∧ (xs.all isQ = false ∨ (xs.all isQ = true ∧ ys.all isQ = false))))) := by
      unfold preC at hp
      cases h1 : xs.all isQ <;> cases h2 : ys.all isQ <;> simp only [h1, h2] at hp <;> simp <;> simp at hp <;> omega
    generalize max (xs.length : Int) (ys.length : Int) = M at *
    clear hr h64 hA hB hx hy hp
    rcases hc with hc | ⟨hc, hc2 | ⟨hc2, hc3 | ⟨hc3, hc4⟩⟩⟩
    · have hc' : (xs.length : Int) ≠ (ys.length : Int) := by omega
      go_enter Try.func12, Try.ntmps12
      go_wp2_with fail
      exact bodyPost_ret (v := .int .i64 2) (by simp only [results, Try.results12]; go_simp) rfl ⟨rfl, (by repeat' (first | exact Below.refl _ _ | assumption | apply bDrewN | apply bDrew | apply bAlloc | (refine bSet ?_ ?_ _) | (refine bStep ?_ (by assumption)) | omega | (simp <;> omega)))⟩
    all_goals
      rw [← hc] at C2 e1 ⊢
      try rw [hc3] at C1
      try rw [hc4] at C2
      first | have hc2' : (xs.length : Int) < 2 := by omega | have hc2' : 2 ≤ (xs.length : Int) := by omega
      clear hc hc2
      skip
      go_enter Try.func12, Try.ntmps12
      go_wp2_with (go_at_call 51; first | (with_reducible refine (C1.out _ (HA.out.step (by repeat' (first | exact Below.refl _ _ | assumption | apply bDrewN | apply bDrew | apply bAlloc | (refine bSet ?_ ?_ _) | (refine bStep ?_ (by assumption)) | omega | (simp <;> omega))))).mono ?_; rintro e w' ⟨rfl, rfl⟩) | (with_reducible refine (C2.out _ (HB.out.step (by repeat' (first | exact Below.refl _ _ | assumption | apply bDrewN | apply bDrew | apply bAlloc | (refine bSet ?_ ?_ _) | (refine bStep ?_ (by assumption)) | omega | (simp <;> omega))))).mono ?_; rintro e w' ⟨rfl, rfl⟩))
      all_goals first | exact bodyPost_ret (v := .int .i64 2) (by simp only [results, Try.results12]; go_simp) rfl ⟨rfl, (by repeat' (first | exact Below.refl _ _ | assumption | apply bDrewN | apply bDrew | apply bAlloc | (refine bSet ?_ ?_ _) | (refine bStep ?_ (by assumption)) | omega | (simp <;> omega)))⟩ | skip

end Go.Proofs.Ytngnehlmbipabaa
