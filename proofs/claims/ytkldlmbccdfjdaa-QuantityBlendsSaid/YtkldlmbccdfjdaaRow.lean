/-
  Rows of spans: what a slice of spans holds; the walks of valid, CheckBox, all, BoxInside over any row; SameBox.
-/
import Derived.Test.YtkldlmbccdfjdaaCs
import Derived.Test.YtkldlmbccdfjdaaWh
set_option linter.unusedSimpArgs false
set_option linter.unusedVariables false
namespace Go.Proofs.Ytkldlmbccdfjdaa
open Go.RowKit

/-- The slice v reads as the list l. -/
def SpAt (a : Option Addr) (l : List (Int × Int)) (W : World) : Prop := l ≠ [] → ∃ b off, a = some ⟨b, off, none⟩ ∧ SpanCells W b off l
def SpRow (v : Value) (l : List (Int × Int)) (W : World) : Prop := ∃ (a : Option Addr) (c : Nat), v = .slice a l.length c ∧ SpAt a l W
theorem SpanCells.step {W w2 : World} {b off : Nat} {l : List (Int × Int)} (h : SpanCells W b off l) (hb : Below W.heap.size W w2) : SpanCells w2 b off l :=
  ⟨Nat.lt_of_lt_of_le h.1 hb.size, fun j hj => ⟨cell_step (h.2 j hj).1 hb, cell_step (h.2 j hj).2 hb⟩⟩
theorem SpRow.step {v : Value} {l : List (Int × Int)} {W w2 : World} (h : SpRow v l W) (hb : Below W.heap.size W w2) : SpRow v l w2 := by
  obtain ⟨a, c, rfl, h⟩ := h
  exact ⟨a, c, rfl, fun hn => by obtain ⟨b, off, rfl, hc⟩ := h hn; exact ⟨b, off, rfl, hc.step hb⟩⟩
theorem SpAt.step {a : Option Addr} {l : List (Int × Int)} {W w2 : World} (h : SpAt a l W) (hb : Below W.heap.size W w2) : SpAt a l w2 := fun hn => by
  obtain ⟨b, off, rfl, hc⟩ := h hn; exact ⟨b, off, rfl, hc.step hb⟩
theorem SpAt.row {a : Option Addr} {c : Nat} {l : List (Int × Int)} {W : World} (h : SpAt a l W) : SpRow (.slice a l.length c) l W := ⟨a, c, rfl, h⟩
theorem SpRow.nil {W : World} : SpRow (.slice none 0 0) [] W := ⟨none, 0, rfl, fun h => absurd rfl h⟩
theorem SpanCells.at_ {W : World} {b off : Nat} {l : List (Int × Int)} (h : SpanCells W b off l) {k : Nat} (hk : k < l.length) :
    W.cell? ⟨b, off + k * 2, none⟩ = some (.int .i64 (l[k]).1) ∧ W.cell? ⟨b, off + k * 2 + 1, none⟩ = some (.int .i64 (l[k]).2) := by
  have := h.2 k hk
  simpa [List.getD, List.getElem?_eq_getElem hk] using this

theorem valid_row (v : Value) (l : List (Int × Int)) (w : World) (hl : l.length ≤ 9223372036854775807) (h : SpRow v l w) :
    Calls Try.prog 54 #[v] w fun e w' => e = .returned (.bool (l.all okS)) ∧ Below w.heap.size w w' := by
  obtain ⟨a, c, rfl, h⟩ := h
  by_cases hn : l = []
  · subst hn
    exact (valid_nil a c w).mono fun e w' ⟨h1, h2⟩ => ⟨by simpa using h1, by subst h2; exact Below.refl _ _⟩
  · obtain ⟨b, off, rfl, hc⟩ := h hn
    exact valid_any l b off c w hl hc

/-- What CheckBox returns. -/
def checkB (l : List (Int × Int)) : Int := if 8 < l.length then 6 else if l.all okS = true then 0 else 2
theorem checkB_ok {l : List (Int × Int)} : checkB l = 0 ↔ l.length ≤ 8 ∧ l.all okS = true := by
  unfold checkB
  split
  · constructor
    · intro h; exact absurd h (by decide)
    · intro h; omega
  · split
    · rename_i h1 h2; exact ⟨fun _ => ⟨by omega, h2⟩, fun _ => rfl⟩
    · rename_i h1 h2; exact ⟨fun h => absurd h (by decide), fun h => absurd h.2 h2⟩
set_option maxHeartbeats 400000 in
theorem CheckBox_row (v : Value) (l : List (Int × Int)) (w : World) (hl : l.length ≤ 9223372036854775807) (h : SpRow v l w) :
    Calls Try.prog 19 #[v] w fun e w' => e = .returned (.int .i64 (checkB l)) ∧ Below w.heap.size w w' := by
  have V := Lib.hid (fun w h => valid_row v l w hl h)
  have H := Lib.hid h
  obtain ⟨a, c, rfl, h⟩ := h
  clear h
  unfold checkB
  by_cases h8 : 8 < l.length
  · rw [if_pos h8]
    go_enter Try.func19, Try.ntmps19
    go_wp2_with fail
    go_ret
    exact ⟨rfl, (by repeat' (first | exact Below.refl _ _ | assumption | apply bDrewN | apply bDrew | apply bAlloc | (refine bSet ?_ ?_ _) | (refine bStep ?_ (by assumption)) | omega | (simp <;> omega)))⟩
  · rw [if_neg h8]
    cases hv : l.all okS
    all_goals
      rw [hv] at V
      clear hv
      go_enter Try.func19, Try.ntmps19
      go_wp2_with (go_at_call 54; refine (V.out _ H.out).mono ?_; rintro e w1 ⟨rfl, hb⟩)
      go_ret
      exact ⟨by simp, (by repeat' (first | exact Below.refl _ _ | assumption | apply bDrewN | apply bDrew | apply bAlloc | (refine bSet ?_ ?_ _) | (refine bStep ?_ (by assumption)) | omega | (simp <;> omega)))⟩

/-- The cells of two spans, from a world on. -/
def Four (b o : Nat) (x1 x2 : Int) (c p : Nat) (y1 y2 : Int) (w W : World) : Prop :=
  W.cell? ⟨b, o, none⟩ = some (.int .i64 x1) ∧ W.cell? ⟨b, o + 1, none⟩ = some (.int .i64 x2) ∧ W.cell? ⟨c, p, none⟩ = some (.int .i64 y1) ∧ W.cell? ⟨c, p + 1, none⟩ = some (.int .i64 y2) ∧ Below w.heap.size w W
theorem Four.step {b o c p : Nat} {x1 x2 y1 y2 : Int} {w W w2 : World} (h : Four b o x1 x2 c p y1 y2 w W) (hb : Below W.heap.size W w2) : Four b o x1 x2 c p y1 y2 w w2 := by
  obtain ⟨h1, h2, h3, h4, h5⟩ := h
  exact ⟨cell_step h1 hb, cell_step h2 hb, cell_step h3 hb, cell_step h4 hb, bStep h5 hb⟩
theorem bAl' {W : World} {o : Obj} : Below W.heap.size W (W.alloc o) := (Below.refl _ _).alloc (Nat.le_refl _) _

/-- What the closure of BoxHas says. -/
def hasP (x y : Int × Int) : Bool := hasS x y.1
theorem boxHas1_any (x y : Int × Int) (w : World) : Calls Try.prog 62 #[.agg #[.int .i64 x.1, .int .i64 x.2], .agg #[.int .i64 y.1, .int .i64 y.2]] w fun e w' => e = .returned (.bool (hasP x y)) ∧ Below w.heap.size w w' := by
  unfold hasP
  have C := Lib.hid (fun w => Has_any x y.1 w)
  generalize hasS x y.1 = r at *
  obtain ⟨x1, x2⟩ := x
  obtain ⟨y1, y2⟩ := y
  dsimp only at *
  go_enter Try.func62, Try.ntmps62
  go_wp2_with (go_at_call 16; refine (C.out _).mono ?_; rintro e w1 ⟨rfl, hb⟩)
  go_ret
  exact ⟨rfl, (by repeat' (first | exact Below.refl _ _ | assumption | apply bDrewN | apply bDrew | apply bAlloc | (refine bSet ?_ ?_ _) | (refine bStep ?_ (by assumption)) | omega | (simp <;> omega)))⟩

/-- Two rows whose pairs are all so. -/
def allS (g : Int × Int → Int × Int → Bool) (l m : List (Int × Int)) : Bool := decide (checkB l = 0 ∧ checkB m = 0 ∧ l.length = m.length ∧ ∀ k, k < l.length → g (l.getD k (0, 0)) (m.getD k (0, 0)) = true)

set_option maxHeartbeats 1000000 in
theorem all_has (v u : Value) (l m : List (Int × Int)) (w : World) (hl : l.length ≤ 9223372036854775807) (hm : m.length ≤ 9223372036854775807) (hv : SpRow v l w) (hu : SpRow u m w) :
    Calls Try.prog 61 #[v, u, .func (.func 62) #[] #[]] w fun e w' => e = .returned (.bool (allS hasP l m)) ∧ Below w.heap.size w w' := by
  have V := Lib.hid (fun w h => CheckBox_row v l w hl h)
  have U := Lib.hid (fun w h => CheckBox_row u m w hm h)
  have G := Lib.hid boxHas1_any
  have HV := Lib.hid hv
  have HU := Lib.hid hu
  obtain ⟨a, ca, rfl, hA⟩ := hv
  obtain ⟨b, cb, rfl, hB⟩ := hu
  by_cases h1 : checkB l = 0
  · rw [h1] at V
    by_cases h2 : checkB m = 0
    · rw [h2] at U
      by_cases h3 : l.length = m.length
      · have hg : ∀ B : Bool, (B = true ↔ ∀ k, k < l.length → hasP (l.getD k (0, 0)) (m.getD k (0, 0)) = true) → B = allS hasP l m := by
          intro B hB
          unfold allS
          rw [Bool.eq_iff_iff, hB, decide_eq_true_eq]
          exact ⟨fun h => ⟨h1, h2, h3, h⟩, fun h => h.2.2.2⟩
        generalize allS hasP l m = r at *
        have HG := Lib.hid hg
        have hB8 : l.length ≤ 8 := (checkB_ok.1 h1).1
        rw [← h3] at U HU ⊢
        have H3 := Lib.hid h3
        have HA := Lib.hid hA
        have HB := Lib.hid hB
        clear h1 h2 hg hl hm h3 hA hB
        go_enter Try.func61, Try.ntmps61
        go_upto_region 4 with (go_at_call 19; first | (with_reducible refine (V.out _ HV.out).mono ?_; rintro e w1 ⟨rfl, hb1⟩; have hx := HU.out.step hb1; clear HU; have HU := Lib.hid hx; clear hx) | (with_reducible refine (U.out _ HU.out).mono ?_; rintro e w2 ⟨rfl, hb2⟩) | fail)
        have HA := Lib.hid ((HA.out.step hb1).step hb2)
        have HB := Lib.hid ((HB.out.step hb1).step hb2)
        have kB : Below w.heap.size w w2 := bStep hb1 hb2
        clear V U HV HU hb1 hb2
        go_loopw [25] (fun i wr => ∃ k : Nat, k ≤ l.length ∧ i = .int .i64 k ∧ Below w.heap.size w wr ∧ Hid (SpAt a l wr) ∧ Hid (SpAt b m wr) ∧ Hid (∀ j, j < k → hasP (l.getD j (0, 0)) (m.getD j (0, 0)) = true)) (fun i _ => l.length - (intOf i).toNat)
        case atStart => exact ⟨0, by omega, rfl, kB, HA.out, HB.out, fun j hj => by omega⟩
        case round =>
          clear HA HB kB
          obtain ⟨k, hk, rfl, kB, HA, HB, HI⟩ := hrel
          by_cases hlt : k < l.length
          · have hlt2 : k < m.length := by rw [← H3.out]; exact hlt
            obtain ⟨b0, o0, rfl, hc⟩ := HA.out (fun h => by rw [h] at hlt; simp at hlt)
            obtain ⟨b1, o1, rfl, hd⟩ := HB.out (fun h => by rw [h] at hlt2; simp at hlt2)
            obtain ⟨q1, q2⟩ := hc.at_ hlt
            obtain ⟨q3, q4⟩ := hd.at_ hlt2
            have HF := Lib.hid (show Four b0 (o0 + k * 2) (l[k]).1 (l[k]).2 b1 (o1 + k * 2) (m[k]).1 (m[k]).2 wr wr from ⟨q1, q2, q3, q4, Below.refl _ _⟩)
            have hgk : l.getD k (0, 0) = l[k] := by simp [List.getD, List.getElem?_eq_getElem hlt]
            have hgm : m.getD k (0, 0) = m[k] := by simp [List.getD, List.getElem?_eq_getElem hlt2]
            have GK := Lib.hid (fun w => G.out (l[k]) (m[k]) w)
            have HI2 : Hid (hasP (l[k]) (m[k]) = true → ∀ j, j < k + 1 → hasP (l.getD j (0, 0)) (m.getD j (0, 0)) = true) := by
              intro h j hj
              rcases Nat.lt_or_ge j k with h' | h'
              · exact HI.out j h'
              · obtain rfl : j = k := by omega
                rw [hgk, hgm]; exact h
            have HN2 : Hid (hasP (l[k]) (m[k]) = false → r = false) := by
              intro h
              refine (HG.out false ⟨fun h => absurd h (by decide), fun h' => ?_⟩).symm
              have := h' k hlt
              rw [hgk, hgm, h] at this
              exact absurd this (by decide)
            generalize hasP (l[k]) (m[k]) = z at *
            clear hc hd hgk hgm HG HI G
            generalize l[k] = x at *
            generalize m[k] = y at *
            obtain ⟨x1, x2⟩ := x
            obtain ⟨y1, y2⟩ := y
            dsimp only at *
            go_upto_region 6 with fail
            go_region_held3 (fun W => W.cell? ⟨b0, o0 + k * 2, none⟩ = some (.int .i64 x1) ∧ W.cell? ⟨b0, o0 + k * 2 + 1, none⟩ = some (.int .i64 x2) ∧ W.cell? ⟨b1, o1 + k * 2, none⟩ = some (.int .i64 y1) ∧ W.cell? ⟨b1, o1 + k * 2 + 1, none⟩ = some (.int .i64 y2) ∧ Below wr.heap.size wr W)
              ((first | exact Four.step HF.out (Below.refl _ _).drew | exact Four.step (show Four b0 (o0 + k * 2) x1 x2 b1 (o1 + k * 2) y1 y2 wr _ by assumption) (by assumption) | exact Four.step (show Four b0 (o0 + k * 2) x1 x2 b1 (o1 + k * 2) y1 y2 wr _ by assumption) bAl'))
              ((go_at_call 62; refine (GK.out _).mono ?_; rintro e w7 ⟨rfl, hb7⟩))
            have hN := (‹_ ∧ _ ∧ _ ∧ _ ∧ Below wr.heap.size wr _›).2.2.2.2
            cases z
            · go_wp2_with fail
              obtain rfl : r = false := HN2.out (by first | rfl | trivial)
              go_ret
              exact ⟨rfl, bStep kB hN⟩
            · go_wp2_with fail
              go_roundw
              case rel => exact ⟨k + 1, by omega, by go_num, bStep kB hN, HA.out.step hN, HB.out.step hN, HI2.out (by first | rfl | trivial)⟩
              case measure => (simp [intOf]; omega)
          · obtain rfl : r = true := (HG.out true ⟨fun _ j hj => HI.out j (by omega), fun _ => rfl⟩).symm
            clear HA HB HI HG
            go_wp2_with fail
            go_ret
            exact ⟨rfl, (by repeat' (first | exact Below.refl _ _ | assumption | apply bDrewN | apply bDrew | apply bAlloc | (refine bSet ?_ ?_ _) | (refine bStep ?_ (by assumption)) | omega | (simp <;> omega)))⟩
      · have hr : allS hasP l m = false := by unfold allS; exact decide_eq_false (fun h => h3 h.2.2.1)
        rw [hr]
        have h3' : (l.length : Int) ≠ (m.length : Int) := by omega
        clear hr hl hm h1 h2 h3 hA hB
        go_enter Try.func61, Try.ntmps61
        go_wp2_with (go_at_call 19; first | (with_reducible refine (V.out _ HV.out).mono ?_; rintro e w1 ⟨rfl, hb1⟩; have hx := HU.out.step hb1; clear HU; have HU := Lib.hid hx; clear hx) | (with_reducible refine (U.out _ HU.out).mono ?_; rintro e w2 ⟨rfl, hb2⟩))
        go_ret
        exact ⟨rfl, (by repeat' (first | exact Below.refl _ _ | assumption | apply bDrewN | apply bDrew | apply bAlloc | (refine bSet ?_ ?_ _) | (refine bStep ?_ (by assumption)) | omega | (simp <;> omega)))⟩
    · have hr : allS hasP l m = false := by unfold allS; exact decide_eq_false (fun h => h2 h.2.1)
      rw [hr]
      generalize checkB m = z at *
      clear hr hl hm h1 hA hB
      go_enter Try.func61, Try.ntmps61
      go_wp2_with (go_at_call 19; first | (with_reducible refine (V.out _ HV.out).mono ?_; rintro e w1 ⟨rfl, hb1⟩; have hx := HU.out.step hb1; clear HU; have HU := Lib.hid hx; clear hx) | (with_reducible refine (U.out _ HU.out).mono ?_; rintro e w2 ⟨rfl, hb2⟩))
      go_ret
      exact ⟨rfl, (by repeat' (first | exact Below.refl _ _ | assumption | apply bDrewN | apply bDrew | apply bAlloc | (refine bSet ?_ ?_ _) | (refine bStep ?_ (by assumption)) | omega | (simp <;> omega)))⟩
  · have hr : allS hasP l m = false := by unfold allS; exact decide_eq_false (fun h => h1 h.1)
    rw [hr]
    generalize checkB l = z at *
    clear hr hl hm hA hB
    go_enter Try.func61, Try.ntmps61
    go_wp2_with (go_at_call 19; (with_reducible refine (V.out _ HV.out).mono ?_); rintro e w1 ⟨rfl, hb1⟩)
    go_ret
    exact ⟨rfl, (by repeat' (first | exact Below.refl _ _ | assumption | apply bDrewN | apply bDrew | apply bAlloc | (refine bSet ?_ ?_ _) | (refine bStep ?_ (by assumption)) | omega | (simp <;> omega)))⟩

set_option maxHeartbeats 1000000 in
theorem all_ins (v u : Value) (l m : List (Int × Int)) (w : World) (hl : l.length ≤ 9223372036854775807) (hm : m.length ≤ 9223372036854775807) (hv : SpRow v l w) (hu : SpRow u m w) :
    Calls Try.prog 61 #[v, u, .func (.func 64) #[] #[]] w fun e w' => e = .returned (.bool (allS insideS l m)) ∧ Below w.heap.size w w' := by
  have V := Lib.hid (fun w h => CheckBox_row v l w hl h)
  have U := Lib.hid (fun w h => CheckBox_row u m w hm h)
  have G := Lib.hid Inside_any
  have HV := Lib.hid hv
  have HU := Lib.hid hu
  obtain ⟨a, ca, rfl, hA⟩ := hv
  obtain ⟨b, cb, rfl, hB⟩ := hu
  by_cases h1 : checkB l = 0
  · rw [h1] at V
    by_cases h2 : checkB m = 0
    · rw [h2] at U
      by_cases h3 : l.length = m.length
      · have hg : ∀ B : Bool, (B = true ↔ ∀ k, k < l.length → insideS (l.getD k (0, 0)) (m.getD k (0, 0)) = true) → B = allS insideS l m := by
          intro B hB
          unfold allS
          rw [Bool.eq_iff_iff, hB, decide_eq_true_eq]
          exact ⟨fun h => ⟨h1, h2, h3, h⟩, fun h => h.2.2.2⟩
        generalize allS insideS l m = r at *
        have HG := Lib.hid hg
        have hB8 : l.length ≤ 8 := (checkB_ok.1 h1).1
        rw [← h3] at U HU ⊢
        have H3 := Lib.hid h3
        have HA := Lib.hid hA
        have HB := Lib.hid hB
        clear h1 h2 hg hl hm h3 hA hB
        go_enter Try.func61, Try.ntmps61
        go_upto_region 4 with (go_at_call 19; first | (with_reducible refine (V.out _ HV.out).mono ?_; rintro e w1 ⟨rfl, hb1⟩; have hx := HU.out.step hb1; clear HU; have HU := Lib.hid hx; clear hx) | (with_reducible refine (U.out _ HU.out).mono ?_; rintro e w2 ⟨rfl, hb2⟩) | fail)
        have HA := Lib.hid ((HA.out.step hb1).step hb2)
        have HB := Lib.hid ((HB.out.step hb1).step hb2)
        have kB : Below w.heap.size w w2 := bStep hb1 hb2
        clear V U HV HU hb1 hb2
        go_loopw [25] (fun i wr => ∃ k : Nat, k ≤ l.length ∧ i = .int .i64 k ∧ Below w.heap.size w wr ∧ Hid (SpAt a l wr) ∧ Hid (SpAt b m wr) ∧ Hid (∀ j, j < k → insideS (l.getD j (0, 0)) (m.getD j (0, 0)) = true)) (fun i _ => l.length - (intOf i).toNat)
        case atStart => exact ⟨0, by omega, rfl, kB, HA.out, HB.out, fun j hj => by omega⟩
        case round =>
          clear HA HB kB
          obtain ⟨k, hk, rfl, kB, HA, HB, HI⟩ := hrel
          by_cases hlt : k < l.length
          · have hlt2 : k < m.length := by rw [← H3.out]; exact hlt
            obtain ⟨b0, o0, rfl, hc⟩ := HA.out (fun h => by rw [h] at hlt; simp at hlt)
            obtain ⟨b1, o1, rfl, hd⟩ := HB.out (fun h => by rw [h] at hlt2; simp at hlt2)
            obtain ⟨q1, q2⟩ := hc.at_ hlt
            obtain ⟨q3, q4⟩ := hd.at_ hlt2
            have HF := Lib.hid (show Four b0 (o0 + k * 2) (l[k]).1 (l[k]).2 b1 (o1 + k * 2) (m[k]).1 (m[k]).2 wr wr from ⟨q1, q2, q3, q4, Below.refl _ _⟩)
            have hgk : l.getD k (0, 0) = l[k] := by simp [List.getD, List.getElem?_eq_getElem hlt]
            have hgm : m.getD k (0, 0) = m[k] := by simp [List.getD, List.getElem?_eq_getElem hlt2]
            have GK := Lib.hid (fun w => G.out (l[k]) (m[k]) w)
            have HI2 : Hid (insideS (l[k]) (m[k]) = true → ∀ j, j < k + 1 → insideS (l.getD j (0, 0)) (m.getD j (0, 0)) = true) := by
              intro h j hj
              rcases Nat.lt_or_ge j k with h' | h'
              · exact HI.out j h'
              · obtain rfl : j = k := by omega
                rw [hgk, hgm]; exact h
            have HN2 : Hid (insideS (l[k]) (m[k]) = false → r = false) := by
              intro h
              refine (HG.out false ⟨fun h => absurd h (by decide), fun h' => ?_⟩).symm
              have := h' k hlt
              rw [hgk, hgm, h] at this
              exact absurd this (by decide)
            generalize insideS (l[k]) (m[k]) = z at *
            clear hc hd hgk hgm HG HI G
            generalize l[k] = x at *
            generalize m[k] = y at *
            obtain ⟨x1, x2⟩ := x
            obtain ⟨y1, y2⟩ := y
            dsimp only at *
            go_upto_region 6 with fail
            go_region_held3 (fun W => W.cell? ⟨b0, o0 + k * 2, none⟩ = some (.int .i64 x1) ∧ W.cell? ⟨b0, o0 + k * 2 + 1, none⟩ = some (.int .i64 x2) ∧ W.cell? ⟨b1, o1 + k * 2, none⟩ = some (.int .i64 y1) ∧ W.cell? ⟨b1, o1 + k * 2 + 1, none⟩ = some (.int .i64 y2) ∧ Below wr.heap.size wr W)
              ((first | exact Four.step HF.out (Below.refl _ _).drew | exact Four.step (show Four b0 (o0 + k * 2) x1 x2 b1 (o1 + k * 2) y1 y2 wr _ by assumption) (by assumption) | exact Four.step (show Four b0 (o0 + k * 2) x1 x2 b1 (o1 + k * 2) y1 y2 wr _ by assumption) bAl'))
              ((go_at_call 64; refine (GK.out _).mono ?_; rintro e w7 ⟨rfl, hb7⟩))
            have hN := (‹_ ∧ _ ∧ _ ∧ _ ∧ Below wr.heap.size wr _›).2.2.2.2
            cases z
            · go_wp2_with fail
              obtain rfl : r = false := HN2.out (by first | rfl | trivial)
              go_ret
              exact ⟨rfl, bStep kB hN⟩
            · go_wp2_with fail
              go_roundw
              case rel => exact ⟨k + 1, by omega, by go_num, bStep kB hN, HA.out.step hN, HB.out.step hN, HI2.out (by first | rfl | trivial)⟩
              case measure => (simp [intOf]; omega)
          · obtain rfl : r = true := (HG.out true ⟨fun _ j hj => HI.out j (by omega), fun _ => rfl⟩).symm
            clear HA HB HI HG
            go_wp2_with fail
            go_ret
            exact ⟨rfl, (by repeat' (first | exact Below.refl _ _ | assumption | apply bDrewN | apply bDrew | apply bAlloc | (refine bSet ?_ ?_ _) | (refine bStep ?_ (by assumption)) | omega | (simp <;> omega)))⟩
      · have hr : allS insideS l m = false := by unfold allS; exact decide_eq_false (fun h => h3 h.2.2.1)
        rw [hr]
        have h3' : (l.length : Int) ≠ (m.length : Int) := by omega
        clear hr hl hm h1 h2 h3 hA hB
        go_enter Try.func61, Try.ntmps61
        go_wp2_with (go_at_call 19; first | (with_reducible refine (V.out _ HV.out).mono ?_; rintro e w1 ⟨rfl, hb1⟩; have hx := HU.out.step hb1; clear HU; have HU := Lib.hid hx; clear hx) | (with_reducible refine (U.out _ HU.out).mono ?_; rintro e w2 ⟨rfl, hb2⟩))
        go_ret
        exact ⟨rfl, (by repeat' (first | exact Below.refl _ _ | assumption | apply bDrewN | apply bDrew | apply bAlloc | (refine bSet ?_ ?_ _) | (refine bStep ?_ (by assumption)) | omega | (simp <;> omega)))⟩
    · have hr : allS insideS l m = false := by unfold allS; exact decide_eq_false (fun h => h2 h.2.1)
      rw [hr]
      generalize checkB m = z at *
      clear hr hl hm h1 hA hB
      go_enter Try.func61, Try.ntmps61
      go_wp2_with (go_at_call 19; first | (with_reducible refine (V.out _ HV.out).mono ?_; rintro e w1 ⟨rfl, hb1⟩; have hx := HU.out.step hb1; clear HU; have HU := Lib.hid hx; clear hx) | (with_reducible refine (U.out _ HU.out).mono ?_; rintro e w2 ⟨rfl, hb2⟩))
      go_ret
      exact ⟨rfl, (by repeat' (first | exact Below.refl _ _ | assumption | apply bDrewN | apply bDrew | apply bAlloc | (refine bSet ?_ ?_ _) | (refine bStep ?_ (by assumption)) | omega | (simp <;> omega)))⟩
  · have hr : allS insideS l m = false := by unfold allS; exact decide_eq_false (fun h => h1 h.1)
    rw [hr]
    generalize checkB l = z at *
    clear hr hl hm hA hB
    go_enter Try.func61, Try.ntmps61
    go_wp2_with (go_at_call 19; (with_reducible refine (V.out _ HV.out).mono ?_); rintro e w1 ⟨rfl, hb1⟩)
    go_ret
    exact ⟨rfl, (by repeat' (first | exact Below.refl _ _ | assumption | apply bDrewN | apply bDrew | apply bAlloc | (refine bSet ?_ ?_ _) | (refine bStep ?_ (by assumption)) | omega | (simp <;> omega)))⟩


end Go.Proofs.Ytkldlmbccdfjdaa
